/- Lemmas of this seat's proofs, several texts laid together. -/
import Derived.WalkKit
import Derived.Test.YtkegfeghdnpajaaOcA
import Derived.Test.YtkegfeghdnpajaaRows
import Derived.Deep.Cut
import Derived.Deep.MidRow
import Derived.BigRegion
import Derived.RegionTactic
import Derived.Deep.CutRange
set_option linter.unusedVariables false
set_option linter.unusedSimpArgs false
/- stable sorting of a list in place, by what it leaves: plain Lean -/
namespace Go.SS
variable {α : Type}

/-- a strict weak order, as a test -/
structure SWO (lt : α → α → Bool) : Prop where
  irr : ∀ x, lt x x = false
  tr : ∀ x y z, lt x y = true → lt y z = true → lt x z = true
  ntr : ∀ x y z, lt x y = false → lt y z = false → lt x z = false
variable {lt : α → α → Bool}
theorem SWO.asymm (h : SWO lt) {x y : α} (hxy : lt x y = true) : lt y x = false := by
  cases e : lt y x with
  | false => rfl
  | true => have := h.tr x y x hxy e; rw [h.irr] at this; cases this
/-- neither is less -/
def eqv (lt : α → α → Bool) (x y : α) : Bool := !lt x y && !lt y x
theorem eqv_iff {x y : α} : eqv lt x y = true ↔ lt x y = false ∧ lt y x = false := by unfold eqv; simp
theorem SWO.eqv_of_lt (h : SWO lt) {x y z : α} (hxy : lt x y = true) (h1 : eqv lt z x = true) (h2 : eqv lt z y = true) : False := by
  obtain ⟨a1, a2⟩ := eqv_iff.1 h1
  obtain ⟨b1, b2⟩ := eqv_iff.1 h2
  have := h.ntr x z y a2 b1
  rw [this] at hxy; cases hxy
/-- no later one is less than an earlier one -/
def Sorted (lt : α → α → Bool) (l : List α) : Prop := l.Pairwise fun x y => lt y x = false
/-- r is l in order, equals as they came -/
def Same (lt : α → α → Bool) (l r : List α) : Prop := ∀ z, r.filter (eqv lt z) = l.filter (eqv lt z)
theorem Same.refl (l : List α) : Same lt l l := fun _ => rfl
theorem Same.trans {a b c : List α} (h : Same lt a b) (g : Same lt b c) : Same lt a c := fun z => (g z).trans (h z)
theorem Same.append {a b c d : List α} (h : Same lt a b) (g : Same lt c d) : Same lt (a ++ c) (b ++ d) := fun z => by
  rw [List.filter_append, List.filter_append, h z, g z]
theorem SWO.self (h : SWO lt) (x : α) : eqv lt x x = true := eqv_iff.2 ⟨h.irr x, h.irr x⟩
theorem Same.mem (h : SWO lt) {l r : List α} (hs : Same lt l r) {x : α} : x ∈ r ↔ x ∈ l := by
  have h1 : x ∈ r ↔ x ∈ r.filter (eqv lt x) := by simp [List.mem_filter, h.self x]
  have h2 : x ∈ l ↔ x ∈ l.filter (eqv lt x) := by simp [List.mem_filter, h.self x]
  rw [h1, hs x, ← h2]
/-- two parts change places, all of the second one less than all of the first one -/
theorem Same.swap (h : SWO lt) {a b : List α} (hb : ∀ x ∈ a, ∀ y ∈ b, lt y x = true) : Same lt (a ++ b) (b ++ a) := fun z => by
  rw [List.filter_append, List.filter_append]
  by_cases ha : a.filter (eqv lt z) = []
  · rw [ha]; simp
  · by_cases hbb : b.filter (eqv lt z) = []
    · rw [hbb]; simp
    · obtain ⟨x, hx⟩ := List.exists_mem_of_ne_nil _ ha
      obtain ⟨y, hy⟩ := List.exists_mem_of_ne_nil _ hbb
      obtain ⟨x1, x2⟩ := List.mem_filter.1 hx
      obtain ⟨y1, y2⟩ := List.mem_filter.1 hy
      exact (h.eqv_of_lt (hb x x1 y y1) y2 x2).elim
theorem Sorted.append {a b : List α} (ha : Sorted lt a) (hb : Sorted lt b) (h : ∀ x ∈ a, ∀ y ∈ b, lt y x = false) : Sorted lt (a ++ b) :=
  List.pairwise_append.2 ⟨ha, hb, h⟩
theorem Sorted.left {a b : List α} (h : Sorted lt (a ++ b)) : Sorted lt a := (List.pairwise_append.1 h).1
theorem Sorted.right {a b : List α} (h : Sorted lt (a ++ b)) : Sorted lt b := (List.pairwise_append.1 h).2.1
theorem Sorted.cross {a b : List α} (h : Sorted lt (a ++ b)) : ∀ x ∈ a, ∀ y ∈ b, lt y x = false := (List.pairwise_append.1 h).2.2

/-- the middle part -/
def seg (d : List α) (a b : Nat) : List α := (d.take b).drop a
theorem seg_length (d : List α) {a b : Nat} (h : b ≤ d.length) : (seg d a b).length = b - a := by simp [seg]; omega
theorem seg_append (d : List α) {a m b : Nat} (h1 : a ≤ m) (h2 : m ≤ b) : seg d a m ++ seg d m b = seg d a b := by
  unfold seg
  have e : d.take b = d.take m ++ (d.take b).drop m := by
    have := List.take_append_drop m (d.take b)
    rw [List.take_take, Nat.min_eq_left h2] at this
    exact this.symm
  by_cases hm : m ≤ d.length
  · conv => rhs; rw [e]
    rw [List.drop_append, List.length_take, Nat.min_eq_left hm, show a - m = 0 by omega]
    rfl
  · have e1 : d.take m = d := List.take_of_length_le (by omega)
    have e2 : d.take b = d := List.take_of_length_le (by omega)
    rw [e1, e2, List.drop_eq_nil_of_le (show d.length ≤ m by omega)]; simp
theorem split3 (d : List α) {a b : Nat} (h1 : a ≤ b) : d = d.take a ++ seg d a b ++ d.drop b := by
  have h := seg_append d (Nat.zero_le a) h1
  have e0 : seg d 0 a = d.take a := by simp [seg]
  have e1 : seg d 0 b = d.take b := by simp [seg]
  rw [e0, e1] at h
  rw [h, List.take_append_drop]
theorem seg_mid (p s q : List α) : seg (p ++ s ++ q) p.length (p.length + s.length) = s := by
  unfold seg
  rw [List.take_append, show p.length + s.length = (p ++ s).length by simp, List.take_length]
  simp
theorem seg_eq {d p s q : List α} {a b : Nat} (h : d = p ++ s ++ q) (ha : p.length = a) (hb : a + s.length = b) : seg d a b = s ∧ d.take a = p ∧ d.drop b = q := by
  subst h ha hb
  refine ⟨seg_mid p s q, by simp, ?_⟩
  rw [List.append_assoc, List.drop_append, List.drop_eq_nil_of_le (by omega), show p.length + s.length - p.length = s.length by omega]
  simp
theorem seg_get (d : List α) {a b i : Nat} (hi : a + i < b) (hb : b ≤ d.length) : (seg d a b)[i]? = d[a + i]? := by
  unfold seg
  rw [List.getElem?_drop, List.getElem?_take]
  simp [hi]
theorem mem_seg {d : List α} {a b : Nat} (hb : b ≤ d.length) {x : α} : x ∈ seg d a b ↔ ∃ i, a ≤ i ∧ i < b ∧ d[i]? = some x := by
  constructor
  · intro h
    obtain ⟨i, hi, e⟩ := List.mem_iff_getElem.1 h
    rw [seg_length d hb] at hi
    refine ⟨a + i, by omega, by omega, ?_⟩
    rw [← seg_get d (by omega) hb, List.getElem?_eq_getElem (by rw [seg_length d hb]; exact hi), e]
  · rintro ⟨i, h1, h2, e⟩
    have := seg_get d (a := a) (i := i - a) (by omega) hb
    rw [show a + (i - a) = i by omega, e] at this
    exact List.mem_of_getElem? this
theorem sorted_seg {d : List α} {a b : Nat} (hb : b ≤ d.length) (h : Sorted lt (seg d a b)) {i j : Nat} (h1 : a ≤ i) (h2 : i < j) (h3 : j < b) {x y : α} (hx : d[i]? = some x) (hy : d[j]? = some y) : lt y x = false := by
  have e := List.pairwise_iff_getElem.1 h (i - a) (j - a) (by rw [seg_length d hb]; omega) (by rw [seg_length d hb]; omega) (by omega)
  have ex := seg_get d (a := a) (i := i - a) (by omega) hb
  have ey := seg_get d (a := a) (i := j - a) (by omega) hb
  rw [show a + (i - a) = i by omega, hx, List.getElem?_eq_getElem (by rw [seg_length d hb]; omega)] at ex
  rw [show a + (j - a) = j by omega, hy, List.getElem?_eq_getElem (by rw [seg_length d hb]; omega)] at ey
  injection ex with ex
  injection ey with ey
  rw [ex, ey] at e
  exact e

/-- d is d0 but for what lies from a up to b, which is another thing -/
structure Only (a b : Nat) (d d' : List α) : Prop where
  len : d'.length = d.length
  pre : d'.take a = d.take a
  post : d'.drop b = d.drop b
theorem Only.refl (a b : Nat) (d : List α) : Only a b d d := ⟨rfl, rfl, rfl⟩
theorem Only.trans {a b : Nat} {c d e : List α} (h : Only a b c d) (g : Only a b d e) : Only a b c e := ⟨g.len.trans h.len, g.pre.trans h.pre, g.post.trans h.post⟩
theorem Only.get {a b i : Nat} {d d' : List α} (h : Only a b d d') (hi : i < a ∨ b ≤ i) : d'[i]? = d[i]? := by
  rcases hi with hi | hi
  · have e1 : (d'.take a)[i]? = d'[i]? := by rw [List.getElem?_take]; simp [hi]
    have e2 : (d.take a)[i]? = d[i]? := by rw [List.getElem?_take]; simp [hi]
    rw [← e1, ← e2, h.pre]
  · have e1 : (d'.drop b)[i - b]? = d'[i]? := by rw [List.getElem?_drop, show b + (i - b) = i by omega]
    have e2 : (d.drop b)[i - b]? = d[i]? := by rw [List.getElem?_drop, show b + (i - b) = i by omega]
    rw [← e1, ← e2, h.post]
theorem Only.of_get {a b : Nat} {d d' : List α} (hl : d'.length = d.length) (h : ∀ i, i < a ∨ b ≤ i → d'[i]? = d[i]?) : Only a b d d' := by
  refine ⟨hl, ?_, ?_⟩
  · apply List.ext_getElem?
    intro i
    rw [List.getElem?_take, List.getElem?_take]
    split
    · exact h i (.inl ‹_›)
    · rfl
  · apply List.ext_getElem?
    intro i
    rw [List.getElem?_drop, List.getElem?_drop]
    exact h _ (.inr (by omega))
theorem Only.mono {a b a' b' : Nat} {d d' : List α} (h : Only a b d d') (ha : a' ≤ a) (hb : b ≤ b') : Only a' b' d d' :=
  .of_get h.len fun i hi => h.get (by omega)
theorem Only.seg_out {a b x y : Nat} {d d' : List α} (h : Only a b d d') (hxy : y ≤ a ∨ b ≤ x) (hy : y ≤ d.length) : seg d' x y = seg d x y := by
  apply List.ext_getElem?
  intro i
  by_cases hi : x + i < y
  · rw [seg_get d' hi (by rw [h.len]; exact hy), seg_get d hi hy]
    exact h.get (by omega)
  · rw [List.getElem?_eq_none (by rw [seg_length d' (by rw [h.len]; exact hy)]; omega), List.getElem?_eq_none (by rw [seg_length d hy]; omega)]

/-- from a up to b all is in order, equals as they came; nothing else is changed -/
structure Sort1 (lt : α → α → Bool) (a b : Nat) (d d' : List α) : Prop where
  only : Only a b d d'
  sorted : Sorted lt (seg d' a b)
  same : Same lt (seg d a b) (seg d' a b)

/-- TWO SORTED PARTS: the ends of both change places; then each half by itself -/
theorem sym_step (h : SWO lt) {d d1 d2 d3 : List α} {a m b s e mid : Nat} (h1 : a ≤ s) (h2 : s ≤ m) (h3 : m ≤ e) (h4 : e ≤ b) (hb : b ≤ d.length) (hmid : mid = s + (e - m))
    (hx : Sorted lt (seg d a m)) (hy : Sorted lt (seg d m b))
    (hlow : ∀ x ∈ seg d s m, ∀ y ∈ seg d m e, lt y x = true) (hhigh : ∀ x ∈ seg d a s, ∀ y ∈ seg d e b, lt y x = false)
    (hr : Only s e d d1) (hr2 : seg d1 s e = seg d m e ++ seg d s m)
    (hl : (Sorted lt (seg d1 a s) → Sorted lt (seg d1 s mid) → Sort1 lt a mid d1 d2)) (hg : (Sorted lt (seg d2 mid e) → Sorted lt (seg d2 e b) → Sort1 lt mid b d2 d3)) : Sort1 lt a b d d3 := by
  have l1 := hr.len
  have x1 := seg_append d h1 h2
  have y1 := seg_append d h3 h4
  have hmid1 : s ≤ mid := by omega
  have hmid2 : mid ≤ e := by omega
  have sp := seg_append d1 hmid1 hmid2
  have es : seg d1 s mid = seg d m e ∧ seg d1 mid e = seg d s m := by
    have hl1 : (seg d1 s mid).length = (seg d m e).length := by rw [seg_length d1 (by omega), seg_length d (by omega)]; omega
    rw [hr2] at sp
    exact List.append_inj sp hl1
  have ea : seg d1 a s = seg d a s := hr.seg_out (.inl (Nat.le_refl _)) (by omega)
  have eb : seg d1 e b = seg d e b := hr.seg_out (.inr (Nat.le_refl _)) hb
  rw [← x1] at hx
  rw [← y1] at hy
  have S2 := hl (by rw [ea]; exact hx.left) (by rw [es.1]; exact hy.left)
  have l2 := S2.only.len
  have m1 : seg d2 mid e = seg d1 mid e := S2.only.seg_out (.inr (Nat.le_refl _)) (by omega)
  have m2 : seg d2 e b = seg d1 e b := S2.only.seg_out (.inr hmid2) (by omega)
  have S3 := hg (by rw [m1, es.2]; exact hx.right) (by rw [m2, eb]; exact hy.right)
  have ha3 : seg d3 a mid = seg d2 a mid := S3.only.seg_out (.inl (Nat.le_refl _)) (by omega)
  have sp3 := seg_append d3 (show a ≤ mid by omega) (show mid ≤ b by omega)
  have sp1 := seg_append d1 (show a ≤ s by omega) hmid1
  have sp1' := seg_append d1 hmid2 h4
  have sp2 := seg_append d2 hmid2 h4
  refine ⟨⟨by rw [S3.only.len, l2, l1], ?_, ?_⟩, ?_, ?_⟩
  · have h3' := (S3.only.mono (show a ≤ mid by omega) (Nat.le_refl b)).pre
    rw [h3', S2.only.pre, (hr.mono h1 h4).pre]
  · rw [S3.only.post, (S2.only.mono (Nat.le_refl a) (show mid ≤ b by omega)).post, (hr.mono h1 h4).post]
  · rw [← sp3, ha3]
    refine S2.sorted.append S3.sorted fun x hx' y hy' => ?_
    have hx2 := (S2.same.mem h).1 hx'
    rw [← sp1, ea, es.1] at hx2
    have hy2 := (S3.same.mem h).1 hy'
    rw [← sp2, m1, m2, es.2, eb] at hy2
    rcases List.mem_append.1 hx2 with hx2 | hx2
    · rcases List.mem_append.1 hy2 with hy2 | hy2
      · exact hx.cross x hx2 y hy2
      · exact hhigh x hx2 y hy2
    · rcases List.mem_append.1 hy2 with hy2 | hy2
      · exact h.asymm (hlow y hy2 x hx2)
      · exact hy.cross x hx2 y hy2
  · have t1 : Same lt (seg d a b) (seg d1 a b) := by
      rw [← seg_append d (show a ≤ m by omega) (show m ≤ b by omega), ← x1, ← y1, ← seg_append d1 (show a ≤ mid by omega) (show mid ≤ b by omega), ← sp1, ← sp1', ea, es.1, es.2, eb]
      have e1 : seg d a s ++ seg d s m ++ (seg d m e ++ seg d e b) = seg d a s ++ ((seg d s m ++ seg d m e) ++ seg d e b) := by simp
      have e2 : seg d a s ++ seg d m e ++ (seg d s m ++ seg d e b) = seg d a s ++ ((seg d m e ++ seg d s m) ++ seg d e b) := by simp
      rw [e1, e2]
      exact (Same.refl _).append ((Same.swap h hlow).append (Same.refl _))
    have t2 : Same lt (seg d1 a b) (seg d2 a b) := by
      rw [← seg_append d1 (show a ≤ mid by omega) (show mid ≤ b by omega), ← seg_append d2 (show a ≤ mid by omega) (show mid ≤ b by omega)]
      refine S2.same.append ?_
      rw [S2.only.seg_out (.inr (Nat.le_refl _)) (by omega)]
      exact Same.refl _
    have t3 : Same lt (seg d2 a b) (seg d3 a b) := by
      rw [← seg_append d2 (show a ≤ mid by omega) (show mid ≤ b by omega), ← sp3, ha3]
      exact (Same.refl _).append S3.same
    exact (t1.trans t2).trans t3

/-- two things change places -/
def swp (d : List α) (i j : Nat) : List α := match d[i]?, d[j]? with | some x, some y => (d.set i y).set j x | _, _ => d
theorem swp_length (d : List α) (i j : Nat) : (swp d i j).length = d.length := by unfold swp; split <;> simp
theorem swp_get {d : List α} {i j : Nat} (hi : i < d.length) (hj : j < d.length) (k : Nat) : (swp d i j)[k]? = if k = j then d[i]? else if k = i then d[j]? else d[k]? := by
  have ei := List.getElem?_eq_getElem hi
  have ej := List.getElem?_eq_getElem hj
  unfold swp
  rw [ei, ej]
  simp only [List.getElem?_set, List.length_set]
  by_cases h1 : k = j
  · subst h1; simp [hj]
  · rw [if_neg (fun e => h1 e.symm), if_neg h1]
    by_cases h2 : k = i
    · subst h2; simp [hi]
    · rw [if_neg (fun e => h2 e.symm), if_neg h2]

/-- i things of two parts, one from a on, one from b on, have changed places -/
def Swapped (a b i : Nat) (d d' : List α) : Prop := d'.length = d.length ∧ ∀ k, d'[k]? = if a ≤ k ∧ k < a + i then d[k - a + b]? else if b ≤ k ∧ k < b + i then d[k - b + a]? else d[k]?
theorem Swapped.zero (a b : Nat) (d : List α) : Swapped a b 0 d d := ⟨rfl, fun k => by rw [if_neg (by omega), if_neg (by omega)]⟩
theorem Swapped.step {a b i n : Nat} {d d' : List α} (h : Swapped a b i d d') (hab : a + n ≤ b) (hi : i < n) (hb : b + n ≤ d.length) : Swapped a b (i + 1) d (swp d' (a + i) (b + i)) := by
  obtain ⟨h1, h2⟩ := h
  refine ⟨by rw [swp_length, h1], fun k => ?_⟩
  rw [swp_get (by omega) (by omega), h2, h2, h2]
  by_cases e1 : k = b + i
  · subst e1
    rw [if_pos rfl, if_neg (by omega), if_neg (by omega), if_neg (by omega), if_pos (by omega), show b + i - b + a = a + i by omega]
  · rw [if_neg e1]
    by_cases e2 : k = a + i
    · subst e2
      rw [if_pos rfl, if_neg (by omega), if_neg (by omega), if_pos (by omega), show a + i - a + b = b + i by omega]
    · rw [if_neg e2]
      by_cases c1 : a ≤ k ∧ k < a + i
      · rw [if_pos c1, if_pos (by omega)]
      · rw [if_neg c1]
        by_cases c2 : b ≤ k ∧ k < b + i
        · rw [if_pos c2, if_neg (by omega), if_pos (by omega)]
        · rw [if_neg c2, if_neg (by omega), if_neg (by omega)]
theorem Swapped.segs {a b n : Nat} {d d' : List α} (h : Swapped a b n d d') (hab : a + n ≤ b) (hb : b + n ≤ d.length) :
    seg d' a (a + n) = seg d b (b + n) ∧ seg d' b (b + n) = seg d a (a + n) ∧ (∀ x y, y ≤ d.length → (y ≤ a ∨ (a + n ≤ x ∧ y ≤ b) ∨ b + n ≤ x) → seg d' x y = seg d x y) ∧ d'.length = d.length := by
  obtain ⟨h1, h2⟩ := h
  have ext : ∀ {x y x' y' : Nat}, y - x = y' - x' → y ≤ d.length → y' ≤ d.length → (∀ i, x + i < y → d'[x + i]? = d[x' + i]?) → seg d' x y = seg d x' y' := by
    intro x y x' y' hl hy hy' hh
    apply List.ext_getElem?
    intro i
    by_cases hi : x + i < y
    · rw [seg_get d' hi (by omega), seg_get d (by omega) hy', hh i hi]
    · rw [List.getElem?_eq_none (by rw [seg_length d' (by omega)]; omega), List.getElem?_eq_none (by rw [seg_length d hy']; omega)]
  refine ⟨ext (by omega) (by omega) (by omega) fun i hi => ?_, ext (by omega) (by omega) (by omega) fun i hi => ?_, fun x y hy hxy => ext rfl hy hy fun i hi => ?_, h1⟩
  · rw [h2, if_pos (by omega), show a + i - a + b = b + i by omega]
  · rw [h2, if_neg (by omega), if_pos (by omega), show b + i - b + a = a + i by omega]
  · rw [h2, if_neg (by omega), if_neg (by omega)]

/-- what is left to rotate: i things ahead of m, j from m on; T: what shall stand there -/
def Rot (a b m i j : Nat) (T d d' : List α) : Prop := Only a b d d' ∧ a ≤ m - i ∧ i ≤ m ∧ m + j ≤ b ∧ seg d' a (m - i) ++ seg d' m (m + j) ++ seg d' (m - i) m ++ seg d' (m + j) b = T
theorem Rot.start {a m b : Nat} {d : List α} (h1 : a ≤ m) (h2 : m ≤ b) (hb : b ≤ d.length) : Rot a b m (m - a) (b - m) (seg d m b ++ seg d a m) d d := by
  refine ⟨Only.refl _ _ _, by omega, by omega, by omega, ?_⟩
  rw [show m - (m - a) = a by omega, show m + (b - m) = b by omega]
  have e1 : seg d a a = [] := List.eq_nil_of_length_eq_zero (by rw [seg_length d (by omega)]; omega)
  have e2 : seg d b b = [] := List.eq_nil_of_length_eq_zero (by rw [seg_length d hb]; omega)
  rw [e1, e2]; simp
theorem Swapped.only {a b x y n : Nat} {d d' : List α} (h : Swapped x y n d d') (hx : a ≤ x) (hxy : x ≤ y) (hy : y + n ≤ b) : Only a b d d' :=
  .of_get h.1 fun i hi => by rw [h.2, if_neg (by omega), if_neg (by omega)]
theorem Rot.more {a b m i j : Nat} {T d d' d2 : List α} (h : Rot a b m i j T d d') (hij : j < i) (hb : b ≤ d.length) (hs : Swapped (m - i) m j d' d2) : Rot a b m (i - j) j T d d2 := by
  obtain ⟨ho, h1, h2, h3, h4⟩ := h
  have hl := ho.len
  obtain ⟨s1, s2, s3, s4⟩ := hs.segs (by omega) (by omega)
  refine ⟨ho.trans (hs.only h1 (by omega) h3), by omega, by omega, h3, ?_⟩
  have e0 : m - (i - j) = m - i + j := by omega
  rw [e0, ← seg_append d2 (show a ≤ m - i by omega) (show m - i ≤ m - i + j by omega), s1, s2, s3 a (m - i) (by omega) (by omega), s3 (m - i + j) m (by omega) (by omega), s3 (m + j) b (by omega) (by omega)]
  rw [← h4, ← seg_append d' (show m - i ≤ m - i + j by omega) (show m - i + j ≤ m by omega)]
  simp
theorem Rot.less {a b m i j : Nat} {T d d' d2 : List α} (h : Rot a b m i j T d d') (hij : i < j) (hb : b ≤ d.length) (hs : Swapped (m - i) (m + j - i) i d' d2) : Rot a b m i (j - i) T d d2 := by
  obtain ⟨ho, h1, h2, h3, h4⟩ := h
  have hl := ho.len
  obtain ⟨s1, s2, s3, s4⟩ := hs.segs (by omega) (by omega)
  refine ⟨ho.trans (hs.only h1 (by omega) (by omega)), h1, h2, by omega, ?_⟩
  have e0 : m + (j - i) = m + j - i := by omega
  have e1 : m - i + i = m := by omega
  have e2 : m + j - i + i = m + j := by omega
  rw [e1, e2] at s1
  rw [e1, e2] at s2
  rw [e0, ← seg_append d2 (show m + j - i ≤ m + j by omega) (show m + j ≤ b by omega), s1, s2, s3 a (m - i) (by omega) (by omega), s3 m (m + j - i) (by omega) (by omega), s3 (m + j) b (by omega) (by omega)]
  rw [← h4, ← seg_append d' (show m ≤ m + j - i by omega) (show m + j - i ≤ m + j by omega)]
  simp
theorem Rot.done {a b m i : Nat} {T d d' d2 : List α} (h : Rot a b m i i T d d') (hb : b ≤ d.length) (hs : Swapped (m - i) m i d' d2) : Only a b d d2 ∧ seg d2 a b = T := by
  obtain ⟨ho, h1, h2, h3, h4⟩ := h
  have hl := ho.len
  obtain ⟨s1, s2, s3, s4⟩ := hs.segs (by omega) (by omega)
  refine ⟨ho.trans (hs.only h1 (by omega) h3), ?_⟩
  have e1 : m - i + i = m := by omega
  rw [e1] at s1
  rw [e1] at s2
  rw [← seg_append d2 (show a ≤ m - i by omega) (show m - i ≤ b by omega), ← seg_append d2 (show m - i ≤ m by omega) (show m ≤ b by omega), ← seg_append d2 (show m ≤ m + i by omega) h3, s1, s2, s3 a (m - i) (by omega) (by omega), s3 (m + i) b (by omega) (by omega), ← h4]
  simp

/-- the ends that change places, as the search found them -/
theorem found (h : SWO lt) {d : List α} {a m b s e : Nat} (h1 : a ≤ s) (h2 : s ≤ m) (h3 : m ≤ e) (h4 : e ≤ b) (hb : b ≤ d.length) (hx : Sorted lt (seg d a m)) (hy : Sorted lt (seg d m b))
    (hlo : s = m ∨ m = e ∨ ∃ x y, d[s]? = some x ∧ d[e - 1]? = some y ∧ lt y x = true) (hhi : s = a ∨ e = b ∨ ∃ x y, d[s - 1]? = some x ∧ d[e]? = some y ∧ lt y x = false) :
    (∀ x ∈ seg d s m, ∀ y ∈ seg d m e, lt y x = true) ∧ (∀ x ∈ seg d a s, ∀ y ∈ seg d e b, lt y x = false) := by
  constructor
  · intro x hx' y hy'
    obtain ⟨i, i1, i2, ei⟩ := (mem_seg (by omega)).1 hx'
    obtain ⟨j, j1, j2, ej⟩ := (mem_seg (by omega)).1 hy'
    rcases hlo with rfl | rfl | ⟨x0, y0, e1, e2, e3⟩
    · omega
    · omega
    · have a1 : lt x x0 = false := by
        by_cases c : i = s
        · subst c; rw [ei] at e1; injection e1 with e1; subst e1; exact h.irr x
        · exact sorted_seg (by omega) hx h1 (show s < i by omega) i2 e1 ei
      have a2 : lt y0 y = false := by
        by_cases c : j = e - 1
        · subst c; rw [ej] at e2; injection e2 with e2; subst e2; exact h.irr y
        · exact sorted_seg (by omega) hy j1 (show j < e - 1 by omega) (by omega) ej e2
      cases c : lt y x with
      | true => rfl
      | false =>
        have := h.ntr y0 y x0 a2 (h.ntr y x x0 c a1)
        rw [this] at e3; cases e3
  · intro x hx' y hy'
    obtain ⟨i, i1, i2, ei⟩ := (mem_seg (by omega)).1 hx'
    obtain ⟨j, j1, j2, ej⟩ := (mem_seg (by omega)).1 hy'
    rcases hhi with rfl | rfl | ⟨x0, y0, e1, e2, e3⟩
    · omega
    · omega
    · have a1 : lt x0 x = false := by
        by_cases c : i = s - 1
        · subst c; rw [ei] at e1; injection e1 with e1; subst e1; exact h.irr x
        · exact sorted_seg (by omega) hx i1 (show i < s - 1 by omega) (by omega) ei e1
      have a2 : lt y y0 = false := by
        by_cases c : j = e
        · subst c; rw [ej] at e2; injection e2 with e2; subst e2; exact h.irr y
        · exact sorted_seg (by omega) hy h3 (show e < j by omega) j2 e2 ej
      exact h.ntr y x0 x (h.ntr y y0 x0 a2 e3) a1

/-- one thing, from place i, has gone to place j, over those between -/
def Gone (i j : Nat) (d d' : List α) : Prop := d'.length = d.length ∧ ((i ≤ j ∧ ∀ k, d'[k]? = if k = j then d[i]? else if i ≤ k ∧ k < j then d[k + 1]? else d[k]?) ∨ (j ≤ i ∧ ∀ k, d'[k]? = if k = j then d[i]? else if j < k ∧ k ≤ i then d[k - 1]? else d[k]?))
theorem Gone.zero (i : Nat) (d : List α) : Gone i i d d := ⟨rfl, .inl ⟨Nat.le_refl _, fun k => by
  split
  · subst_vars; rfl
  · rw [if_neg (by omega)]⟩⟩
theorem Gone.up {i j : Nat} {d d' : List α} (h : Gone i j d d') (hij : i ≤ j) (hj : j + 1 < d.length) : Gone i (j + 1) d (swp d' j (j + 1)) := by
  obtain ⟨hl, h⟩ := h
  have hk : ∀ k, d'[k]? = if k = j then d[i]? else if i ≤ k ∧ k < j then d[k + 1]? else d[k]? := by
    rcases h with ⟨_, h⟩ | ⟨h1, h⟩
    · exact h
    · obtain rfl : i = j := by omega
      intro k; rw [h]
      split
      · rfl
      · rw [if_neg (by omega), if_neg (by omega)]
  refine ⟨by rw [swp_length, hl], .inl ⟨by omega, fun k => ?_⟩⟩
  rw [swp_get (by omega) (by omega), hk, hk, hk]
  by_cases e1 : k = j + 1
  · rw [if_pos e1, if_pos e1, if_pos rfl]
  · rw [if_neg e1, if_neg e1]
    by_cases e2 : k = j
    · subst e2; rw [if_pos rfl, if_neg (by omega), if_neg (by omega), if_pos (by omega)]
    · rw [if_neg e2, if_neg e2]
      by_cases e3 : i ≤ k ∧ k < j
      · rw [if_pos e3, if_pos (by omega)]
      · rw [if_neg e3, if_neg (by omega)]
theorem Gone.down {i j : Nat} {d d' : List α} (h : Gone i (j + 1) d d') (hij : j + 1 ≤ i) (hj : i < d.length) : Gone i j d (swp d' (j + 1) j) := by
  obtain ⟨hl, h⟩ := h
  have hk : ∀ k, d'[k]? = if k = j + 1 then d[i]? else if j + 1 < k ∧ k ≤ i then d[k - 1]? else d[k]? := by
    rcases h with ⟨h1, h⟩ | ⟨_, h⟩
    · obtain rfl : i = j + 1 := by omega
      intro k; rw [h]
      split
      · rfl
      · rw [if_neg (by omega), if_neg (by omega)]
    · exact h
  refine ⟨by rw [swp_length, hl], .inr ⟨by omega, fun k => ?_⟩⟩
  rw [swp_get (by omega) (by omega), hk, hk, hk]
  by_cases e1 : k = j
  · rw [if_pos e1, if_pos e1, if_pos rfl]
  · rw [if_neg e1, if_neg e1]
    by_cases e2 : k = j + 1
    · subst e2; rw [if_pos rfl, if_neg (by omega), if_neg (by omega), if_pos (by omega)]; simp
    · rw [if_neg e2, if_neg e2]
      by_cases e3 : j + 1 < k ∧ k ≤ i
      · rw [if_pos e3, if_pos (by omega)]
      · rw [if_neg e3, if_neg (by omega)]
theorem Gone.up_segs {i j : Nat} {d d' : List α} (h : Gone i j d d') (hij : i < j) (hj : j < d.length) : Only i (j + 1) d d' ∧ seg d' i (j + 1) = seg d (i + 1) (j + 1) ++ seg d i (i + 1) := by
  obtain ⟨hl, ⟨_, h⟩ | ⟨h1, _⟩⟩ := h
  rotate_left
  · omega
  refine ⟨.of_get hl fun k hk => by rw [h, if_neg (by omega), if_neg (by omega)], ?_⟩
  apply List.ext_getElem?
  intro k
  have s1 : (seg d (i + 1) (j + 1)).length = j - i := by rw [seg_length d (by omega)]; omega
  by_cases hk : i + k < j + 1
  · rw [seg_get d' hk (by omega), h, List.getElem?_append]
    by_cases e : k < j - i
    · rw [if_neg (by omega), if_pos (by omega), if_pos (by omega), seg_get d (by omega) (by omega)]; congr 1; omega
    · rw [if_pos (by omega), if_neg (by omega), s1, seg_get d (by omega) (by omega)]; congr 1; omega
  · rw [List.getElem?_eq_none (by rw [seg_length d' (by omega)]; omega), List.getElem?_eq_none (by rw [List.length_append, s1, seg_length d (by omega)]; omega)]
theorem Gone.down_segs {i j : Nat} {d d' : List α} (h : Gone i j d d') (hij : j < i) (hi : i < d.length) : Only j (i + 1) d d' ∧ seg d' j (i + 1) = seg d i (i + 1) ++ seg d j i := by
  obtain ⟨hl, ⟨h1, _⟩ | ⟨_, h⟩⟩ := h
  · omega
  refine ⟨.of_get hl fun k hk => by rw [h, if_neg (by omega), if_neg (by omega)], ?_⟩
  apply List.ext_getElem?
  intro k
  have s1 : (seg d i (i + 1)).length = 1 := by rw [seg_length d (by omega)]; omega
  by_cases hk : j + k < i + 1
  · rw [seg_get d' hk (by omega), h, List.getElem?_append, s1]
    by_cases e : k = 0
    · subst e; rw [if_pos (by omega), if_pos (by omega), seg_get d (by omega) (by omega)]; simp
    · rw [if_neg (by omega), if_pos (by omega), if_neg (by omega), seg_get d (by omega) (by omega)]; congr 1; omega
  · rw [List.getElem?_eq_none (by rw [seg_length d' (by omega)]; omega), List.getElem?_eq_none (by rw [List.length_append, s1, seg_length d (by omega)]; omega)]

theorem Sort1.none {a b : Nat} {d : List α} (h : Sorted lt (seg d a b)) : Sort1 lt a b d d := ⟨Only.refl _ _ _, h, Same.refl _⟩
theorem sorted_one (d : List α) {a b : Nat} (hb : b ≤ d.length) (h : b ≤ a + 1) : Sorted lt (seg d a b) := by
  have hl := seg_length d (a := a) hb
  unfold Sorted
  generalize seg d a b = l at hl
  match l, hl with
  | [], _ => exact List.Pairwise.nil
  | [x], _ => exact List.pairwise_singleton _ _
  | x :: y :: r, hl => simp at hl; omega
/-- the first thing goes up to its place among the others, which are in order -/
theorem ins_up (h : SWO lt) {d d' : List α} {a b e : Nat} (h3 : a + 1 ≤ e) (h4 : e ≤ b) (hb : b ≤ d.length) (hy : Sorted lt (seg d (a + 1) b)) {x : α} (hx : d[a]? = some x)
    (hlo : e = a + 1 ∨ ∃ y, d[e - 1]? = some y ∧ lt y x = true) (hhi : e = b ∨ ∃ y, d[e]? = some y ∧ lt y x = false) (hg : Gone a (e - 1) d d') : Sort1 lt a b d d' := by
  have ha1 : Sorted lt (seg d a (a + 1)) := sorted_one d (by omega) (by omega)
  have hcross : ∀ y ∈ seg d e b, lt y x = false := fun y hy' => by
    obtain ⟨j, j1, j2, ej⟩ := (mem_seg hb).1 hy'
    rcases hhi with rfl | ⟨y0, e2, e3⟩
    · omega
    · have a2 : lt y y0 = false := by
        by_cases c : j = e
        · subst c; rw [ej] at e2; injection e2 with e2; subst e2; exact h.irr y
        · exact sorted_seg hb hy (by omega) (show e < j by omega) j2 e2 ej
      exact h.ntr y y0 x a2 e3
  by_cases c : e = a + 1
  · subst c
    obtain rfl : d' = d := by
      obtain ⟨hl, hh⟩ := hg
      apply List.ext_getElem?
      intro k
      rcases hh with ⟨_, hh⟩ | ⟨_, hh⟩
      · rw [hh, show a + 1 - 1 = a by omega]
        split
        · subst_vars; rfl
        · rw [if_neg (by omega)]
      · rw [hh, show a + 1 - 1 = a by omega]
        split
        · subst_vars; rfl
        · rw [if_neg (by omega)]
    refine Sort1.none ?_
    rw [← seg_append d' (show a ≤ a + 1 by omega) (by omega)]
    refine ha1.append hy fun x' hx' y hy' => ?_
    obtain ⟨i, i1, i2, ei⟩ := (mem_seg (by omega)).1 hx'
    obtain rfl : i = a := by omega
    rw [hx] at ei; injection ei with ei; subst ei
    exact hcross y hy'
  · obtain ⟨ho, hs⟩ := hg.up_segs (by omega) (by omega)
    rw [show e - 1 + 1 = e by omega] at ho hs
    have hlow : ∀ x' ∈ seg d a (a + 1), ∀ y ∈ seg d (a + 1) e, lt y x' = true := fun x' hx' y hy' => by
      obtain ⟨i, i1, i2, ei⟩ := (mem_seg (by omega)).1 hx'
      obtain rfl : i = a := by omega
      rw [hx] at ei; injection ei with ei; subst ei
      obtain ⟨j, j1, j2, ej⟩ := (mem_seg (by omega)).1 hy'
      rcases hlo with rfl | ⟨y0, e2, e3⟩
      · omega
      · have a2 : lt y0 y = false := by
          by_cases c : j = e - 1
          · subst c; rw [ej] at e2; injection e2 with e2; subst e2; exact h.irr y
          · exact sorted_seg hb hy j1 (show j < e - 1 by omega) (by omega) ej e2
        cases c : lt y x with
        | true => rfl
        | false => have := h.ntr y0 y x a2 c; rw [this] at e3; cases e3
    refine sym_step (s := a) (m := a + 1) (e := e) (mid := a + (e - (a + 1))) h (Nat.le_refl _) (by omega) h3 h4 hb rfl ha1 hy hlow (fun x' hx' => by
      obtain ⟨i, i1, i2, ei⟩ := (mem_seg (by omega)).1 hx'; omega) ho hs (fun _ s2 => Sort1.none s2) (fun s1 s2 => ?_)
    refine Sort1.none ?_
    rw [← seg_append d' (show a + (e - (a + 1)) ≤ e by omega) h4]
    refine s1.append s2 fun x' hx' y hy' => ?_
    have sp := seg_append d' (show a ≤ a + (e - (a + 1)) by omega) (show a + (e - (a + 1)) ≤ e by omega)
    have hl := ho.len
    have e2 : seg d' (a + (e - (a + 1))) e = seg d a (a + 1) := by
      rw [hs] at sp
      exact (List.append_inj sp (by rw [seg_length d' (by omega), seg_length d (by omega)]; omega)).2
    rw [e2] at hx'
    rw [ho.seg_out (.inr (Nat.le_refl _)) hb] at hy'
    obtain ⟨i, i1, i2, ei⟩ := (mem_seg (by omega)).1 hx'
    obtain rfl : i = a := by omega
    rw [hx] at ei; injection ei with ei; subst ei
    exact hcross y hy'
/-- the last thing goes down to its place among the others, which are in order -/
theorem ins_down (h : SWO lt) {d d' : List α} {a m s : Nat} (h1 : a ≤ s) (h2 : s ≤ m) (hb : m < d.length) (hx : Sorted lt (seg d a m)) {y : α} (hy : d[m]? = some y)
    (hlo : s = m ∨ ∃ x, d[s]? = some x ∧ lt y x = true) (hhi : s = a ∨ ∃ x, d[s - 1]? = some x ∧ lt y x = false) (hg : Gone m s d d') : Sort1 lt a (m + 1) d d' := by
  have hb1 : Sorted lt (seg d m (m + 1)) := sorted_one d (by omega) (by omega)
  have hcross : ∀ x ∈ seg d a s, lt y x = false := fun x hx' => by
    obtain ⟨i, i1, i2, ei⟩ := (mem_seg (by omega)).1 hx'
    rcases hhi with rfl | ⟨x0, e2, e3⟩
    · omega
    · have a2 : lt x0 x = false := by
        by_cases c : i = s - 1
        · subst c; rw [ei] at e2; injection e2 with e2; subst e2; exact h.irr x
        · exact sorted_seg (by omega) hx i1 (show i < s - 1 by omega) (by omega) ei e2
      exact h.ntr y x0 x e3 a2
  by_cases c : s = m
  · subst c
    obtain rfl : d' = d := by
      obtain ⟨hl, hh⟩ := hg
      apply List.ext_getElem?
      intro k
      rcases hh with ⟨_, hh⟩ | ⟨_, hh⟩
      · rw [hh]
        split
        · subst_vars; rfl
        · rw [if_neg (by omega)]
      · rw [hh]
        split
        · subst_vars; rfl
        · rw [if_neg (by omega)]
    refine Sort1.none ?_
    rw [← seg_append d' h1 (show s ≤ s + 1 by omega)]
    refine hx.append hb1 fun x' hx' y' hy' => ?_
    obtain ⟨i, i1, i2, ei⟩ := (mem_seg (by omega)).1 hy'
    obtain rfl : i = s := by omega
    rw [hy] at ei; injection ei with ei; subst ei
    exact hcross x' hx'
  · obtain ⟨ho, hs⟩ := hg.down_segs (by omega) hb
    have hlow : ∀ x ∈ seg d s m, ∀ y' ∈ seg d m (m + 1), lt y' x = true := fun x hx' y' hy' => by
      obtain ⟨i, i1, i2, ei⟩ := (mem_seg (by omega)).1 hy'
      obtain rfl : i = m := by omega
      rw [hy] at ei; injection ei with ei; subst ei
      obtain ⟨j, j1, j2, ej⟩ := (mem_seg (by omega)).1 hx'
      rcases hlo with rfl | ⟨x0, e2, e3⟩
      · omega
      · have a2 : lt x x0 = false := by
          by_cases c : j = s
          · subst c; rw [ej] at e2; injection e2 with e2; subst e2; exact h.irr x
          · exact sorted_seg (by omega) hx h1 (show s < j by omega) j2 e2 ej
        cases c : lt y x with
        | true => rfl
        | false => have := h.ntr y x x0 c a2; rw [this] at e3; cases e3
    refine sym_step (s := s) (m := m) (e := m + 1) (mid := s + (m + 1 - m)) (d2 := d') h h1 h2 (by omega) (Nat.le_refl _) (by omega) rfl hx hb1 hlow (fun x hx' y' hy' => by
      obtain ⟨i, i1, i2, ei⟩ := (mem_seg (by omega)).1 hy'; omega) ho hs (fun s1 s2 => Sort1.none ?_) (fun s1 _ => Sort1.none s1)
    have hl := ho.len
    rw [← seg_append d' h1 (show s ≤ s + (m + 1 - m) by omega)]
    refine s1.append s2 fun x hx' y' hy' => ?_
    have sp := seg_append d' (show s ≤ s + (m + 1 - m) by omega) (show s + (m + 1 - m) ≤ m + 1 by omega)
    have e2 : seg d' s (s + (m + 1 - m)) = seg d m (m + 1) := by
      rw [hs] at sp
      exact (List.append_inj sp (by rw [seg_length d' (by omega), seg_length d (by omega)]; omega)).1
    rw [e2] at hy'
    rw [ho.seg_out (.inl (Nat.le_refl _)) (by omega)] at hx'
    obtain ⟨i, i1, i2, ei⟩ := (mem_seg (by omega)).1 hy'
    obtain rfl : i = m := by omega
    rw [hy] at ei; injection ei with ei; subst ei
    exact hcross x hx'
theorem Sort1.comp {a m b : Nat} {d d0 d' : List α} (h : Sort1 lt a m d d0) (g : Sort1 lt a b d0 d') (ham : a ≤ m) (hmb : m ≤ b) (hb : b ≤ d.length) : Sort1 lt a b d d' := by
  refine ⟨(h.only.mono (Nat.le_refl a) hmb).trans g.only, g.sorted, ?_⟩
  have t : Same lt (seg d a b) (seg d0 a b) := by
    rw [← seg_append d ham hmb, ← seg_append d0 ham hmb, h.only.seg_out (.inr (Nat.le_refl m)) hb]
    exact h.same.append (Same.refl _)
  exact t.trans g.same
theorem Sort1.whole {a b : Nat} {d d' : List α} (h : Sort1 lt a b d d') (hab : a ≤ b) : Same lt d d' := by
  rw [split3 d hab, split3 d' hab, h.only.pre, h.only.post]
  exact ((Same.refl _).append h.same).append (Same.refl _)

/-- all blocks of s things are in order -/
def SB (lt : α → α → Bool) (s : Nat) (d : List α) : Prop := ∀ q, Sorted lt (seg d (q * s) (min ((q + 1) * s) d.length))
theorem seg_nil {d : List α} {a b : Nat} (h : b ≤ a) : seg d a b = [] := by
  unfold seg
  exact List.drop_eq_nil_of_le (by rw [List.length_take]; omega)
theorem seg_all (d : List α) : seg d 0 d.length = d := by simp [seg]
theorem SB.all {s : Nat} {d : List α} (h : SB lt s d) (hs : d.length ≤ s) : Sorted lt d := by
  have := h 0
  rwa [Nat.zero_mul, show (0 + 1) * s = s by omega, Nat.min_eq_right hs, seg_all] at this
theorem mul_next (q s : Nat) : (q + 1) * s = q * s + s := Nat.succ_mul q s
theorem mul_le {p q s : Nat} (h : p ≤ q) : p * s ≤ q * s := Nat.mul_le_mul_right s h
/-- the first k blocks of s are in order -/
def Pre (lt : α → α → Bool) (s k : Nat) (d0 d : List α) : Prop := d.length = d0.length ∧ Same lt d0 d ∧ ∀ q, q < k → Sorted lt (seg d (q * s) ((q + 1) * s))
theorem Pre.zero (s : Nat) (d : List α) : Pre lt s 0 d d := ⟨rfl, Same.refl _, fun q h => by omega⟩
theorem Pre.step {s k : Nat} {d0 d d' : List α} (h : Pre lt s k d0 d) (hb : (k + 1) * s ≤ d.length) (hs : Sort1 lt (k * s) ((k + 1) * s) d d') : Pre lt s (k + 1) d0 d' := by
  obtain ⟨h1, h2, h3⟩ := h
  have e := mul_next k s
  refine ⟨by rw [hs.only.len, h1], h2.trans (hs.whole (by omega)), fun q hq => ?_⟩
  by_cases c : q = k
  · subst c; exact hs.sorted
  · have := mul_le (s := s) (show q + 1 ≤ k by omega)
    rw [hs.only.seg_out (.inl this) (by omega)]
    exact h3 q (by omega)
theorem Pre.last {s k : Nat} {d0 d d' : List α} (h : Pre lt s k d0 d) (h0 : 0 < s) (hk : k * s ≤ d.length) (hb : d.length < (k + 1) * s) (hs : Sort1 lt (k * s) d.length d d') : SB lt s d' ∧ Same lt d0 d' ∧ d'.length = d0.length := by
  obtain ⟨h1, h2, h3⟩ := h
  have hl := hs.only.len
  refine ⟨fun q => ?_, h2.trans (hs.whole hk), by omega⟩
  rw [hl]
  rcases Nat.lt_trichotomy q k with c | c | c
  · have e1 := mul_le (s := s) (show q + 1 ≤ k by omega)
    rw [Nat.min_eq_left (by omega), hs.only.seg_out (.inl e1) (by omega)]
    exact h3 q c
  · subst c
    rw [Nat.min_eq_right (by omega)]; exact hs.sorted
  · have e1 := mul_le (s := s) (show k + 1 ≤ q by omega)
    rw [seg_nil (by omega)]
    exact List.Pairwise.nil
/-- the first k blocks of 2 s are in order, and all blocks of s behind them -/
def Mid (lt : α → α → Bool) (s k : Nat) (d0 d : List α) : Prop := d.length = d0.length ∧ Same lt d0 d ∧ (∀ q, q < k → Sorted lt (seg d (q * (2 * s)) ((q + 1) * (2 * s)))) ∧ ∀ q, 2 * k ≤ q → Sorted lt (seg d (q * s) (min ((q + 1) * s) d.length))
theorem Mid.zero {s : Nat} {d0 d : List α} (h : SB lt s d) (h2 : Same lt d0 d) (hl : d.length = d0.length) : Mid lt s 0 d0 d := ⟨hl, h2, fun q h => by omega, fun q _ => h q⟩
theorem dbl (k s : Nat) : k * (2 * s) = 2 * k * s := by rw [← Nat.mul_assoc, Nat.mul_comm k 2]
theorem Mid.halves {s k : Nat} {d0 d : List α} (h : Mid lt s k d0 d) : Sorted lt (seg d (k * (2 * s)) (min (k * (2 * s) + s) d.length)) ∧ Sorted lt (seg d (k * (2 * s) + s) (min (k * (2 * s) + s + s) d.length)) := by
  obtain ⟨_, _, _, h4⟩ := h
  have e := dbl k s
  have a1 := h4 (2 * k) (Nat.le_refl _)
  have a2 := h4 (2 * k + 1) (by omega)
  rw [mul_next (2 * k) s] at a1
  rw [mul_next (2 * k + 1) s, mul_next (2 * k) s] at a2
  rw [e]
  exact ⟨a1, a2⟩
theorem Mid.step {s k : Nat} {d0 d d' : List α} (h : Mid lt s k d0 d) (hb : (k + 1) * (2 * s) ≤ d.length) (hs : Sort1 lt (k * (2 * s)) ((k + 1) * (2 * s)) d d') : Mid lt s (k + 1) d0 d' := by
  obtain ⟨h1, h2, h3, h4⟩ := h
  have hl := hs.only.len
  have e := mul_next k (2 * s)
  refine ⟨by rw [hl, h1], h2.trans (hs.whole (by omega)), fun q hq => ?_, fun q hq => ?_⟩
  · by_cases c : q = k
    · subst c; exact hs.sorted
    · have := mul_le (s := 2 * s) (show q + 1 ≤ k by omega)
      rw [hs.only.seg_out (.inl this) (by omega)]
      exact h3 q (by omega)
  · have e1 := dbl (k + 1) s
    have e2 := mul_le (s := s) hq
    rw [hl, hs.only.seg_out (.inr (by omega)) (by omega)]
    exact h4 q (by omega)
theorem Mid.last {s k : Nat} {d0 d d' : List α} (h : Mid lt s k d0 d) (h0 : 0 < s) (hk : k * (2 * s) ≤ d.length) (hb : d.length < (k + 1) * (2 * s)) (hs : (d.length ≤ k * (2 * s) + s ∧ d' = d) ∨ Sort1 lt (k * (2 * s)) d.length d d') : SB lt (2 * s) d' ∧ Same lt d0 d' ∧ d'.length = d0.length := by
  have hh := h.halves.1
  obtain ⟨h1, h2, h3, h4⟩ := h
  rcases hs with ⟨hc, rfl⟩ | hs
  · refine ⟨fun q => ?_, h2, h1⟩
    rcases Nat.lt_trichotomy q k with c | c | c
    · have e1 := mul_le (s := 2 * s) (show q + 1 ≤ k by omega)
      rw [Nat.min_eq_left (by omega)]
      exact h3 q c
    · subst c
      rw [Nat.min_eq_right (by omega)]
      rwa [Nat.min_eq_right hc] at hh
    · have e1 := mul_le (s := 2 * s) (show k + 1 ≤ q by omega)
      rw [seg_nil (by omega)]
      exact List.Pairwise.nil
  · have hl := hs.only.len
    refine ⟨fun q => ?_, h2.trans (hs.whole hk), by omega⟩
    rw [hl]
    rcases Nat.lt_trichotomy q k with c | c | c
    · have e1 := mul_le (s := 2 * s) (show q + 1 ≤ k by omega)
      rw [Nat.min_eq_left (by omega), hs.only.seg_out (.inl e1) (by omega)]
      exact h3 q c
    · subst c
      rw [Nat.min_eq_right (by omega)]; exact hs.sorted
    · have e1 := mul_le (s := 2 * s) (show k + 1 ≤ q by omega)
      rw [seg_nil (by omega)]
      exact List.Pairwise.nil
end Go.SS

/- rows of what was stored; exchanges -/
namespace Go.Bas
open Go.RowKit
/-- a struct in the middle of a row read, in a quiet walk -/
theorem wpQuiet_load_mid {P : Program} {ops : Array Oper} {C : World → Prop} {Q : Act → Prop} {a : Act} {o : Oper} {rest : List Oper} (hw : Region.wanted o (yielded ops a.tmps) = true) (ty : TypeId) (x : Operand) (ho : o.op = .load ty x)
    (g off : Nat) (hx : a.eval x = .pointer (some ⟨g, off, none⟩)) (cs : List Value) (d : TypeDesc) (hg : ∀ w, C w → w.rangeAt g off cs)
    (hu : P.underlying ty = some d) (hd : d.isRow = true) (hi : (P.info? ty).map (·.size) = some cs.length)
    (h : wpQuiet P ops C Q rest (a.put o.dst (.agg cs.toArray))) : wpQuiet P ops C Q (o :: rest) a := by
  refine wpQuiet_step fun K hK => ?_
  rw [if_pos hw]
  refine ⟨.agg cs.toArray, fun w hC => ?_, hK _ h⟩
  unfold Oper.quietAt execOp
  simp only [ho, hx, Instr.loadAt, Instr.sureAddr, Sem.run_bind, Sem.run_pure, Result.andThen_ok, run_loadVar_mid w g off ty cs d (hg w hC) hu hd hi]
  exact ⟨rfl, rfl⟩
theorem Chg.setCells {S : Nat → Prop} (b : Nat) (hb : S b) : ∀ (vs : List Value) (o : Nat) (w : World), Chg S w (w.setCells b o vs)
  | [], o, w => Chg.refl _ _
  | v :: vs, o, w => (Chg.setCell w ⟨b, o, none⟩ v hb).trans (Chg.setCells b hb vs (o + 1) _)
theorem rangeAt_kept {w w' : World} {b o : Nat} {cs : List Value} (h : w.rangeAt b o cs) (hk : w'.heap[b]? = w.heap[b]?) : w'.rangeAt b o cs := fun j v hj => by
  have := h j v hj
  rw [← this]; simp [World.cell?, hk]
theorem there_kept {w w' : World} {b o n : Nat} (h : w.there b o n) (hk : w'.heap[b]? = w.heap[b]?) : w'.there b o n := fun j hj => by
  obtain ⟨h1, h2⟩ := h j hj
  refine ⟨?_, ?_⟩
  · rw [← h1]; simp [World.cell?, hk]
  · rw [← h2]; simp [World.frozen?, hk]
end Go.Bas
namespace Go.Proofs.Ytkegfeghdnpajaa
open Go.RowKit Go.Bas
namespace Srt

/-- what was stored at a stamp -/
structure St where
  (stamp : Int) (flag : Bool) (pa : Option Addr) (pn pc : Nat)
def enc (x : St) : List Value := [.int .i64 x.stamp, .bool x.flag, .slice x.pa x.pn x.pc]
theorem enc_length (x : St) : (enc x).length = 3 := rfl
theorem enc_one (x : St) : (enc x).toArray.all (·.oneCell') = true := by simp [enc, Value.oneCell']
theorem size : (Try.prog.info? 122).map (·.size) = some 3 := by kernel_rfl

/-- block g has d -/
def SRow (w : World) (g : Nat) (d : List St) : Prop := g < w.heap.size ∧ ∀ i (h : i < d.length), w.rangeAt g (i * 3) (enc d[i]) ∧ w.there g (i * 3) 3
theorem SRow.kept {w w' : World} {g : Nat} {d : List St} (h : SRow w g d) (hk : w'.heap[g]? = w.heap[g]?) (hs : w.heap.size ≤ w'.heap.size) : SRow w' g d :=
  ⟨Nat.lt_of_lt_of_le h.1 hs, fun i hi => ⟨rangeAt_kept (h.2 i hi).1 hk, there_kept (h.2 i hi).2 hk⟩⟩
theorem SRow.below {w w' : World} {g B : Nat} {d : List St} (h : SRow w g d) (hb : Below B w w') (hg : g < B) : SRow w' g d := h.kept (hb.block g hg) hb.size
theorem SRow.set {w : World} {g : Nat} {d : List St} (h : SRow w g d) {i : Nat} (hi : i < d.length) (y : St) : SRow (w.setCells g (i * 3) (enc y)) g (d.set i y) := by
  have hc := Chg.setCells (S := fun k => k = g) g rfl (enc y) (i * 3) w
  refine ⟨Nat.lt_of_lt_of_le h.1 hc.size, fun j hj => ?_⟩
  have hj' : j < d.length := by simpa using hj
  refine ⟨?_, World.there_setCells (h.2 j hj').2 _ _ _⟩
  by_cases e : j = i
  · subst e
    rw [List.getElem_set_self]
    exact World.rangeAt_setCells_same w g _ _ (h.2 j hj').2
  · rw [List.getElem_set_ne (fun h => e h.symm)]
    refine World.rangeAt_setCells_apart (h.2 j hj').1 _ _ _ (.inr ?_)
    simp only [enc_length]
    omega
theorem SRow.swap {w : World} {g : Nat} {d : List St} (h : SRow w g d) {i j : Nat} (hi : i < d.length) (hj : j < d.length) : SRow ((w.setCells g (i * 3) (enc d[j])).setCells g (j * 3) (enc d[i])) g (SS.swp d i j) := by
  have e : SS.swp d i j = (d.set i d[j]).set j d[i] := by
    unfold SS.swp
    rw [List.getElem?_eq_getElem hi, List.getElem?_eq_getElem hj]
  rw [e]
  exact (h.set hi d[j]).set (by simpa using hj) d[i]

set_option maxRecDepth 100000 in
set_option maxHeartbeats 4000000 in
theorem swapRange_any {w : World} {g cap : Nat} {d : List St} (h : SRow w g d) (hl : d.length ≤ 1000000) (fv : Value) {a b n : Nat} (hab : a + n ≤ b) (hb : b + n ≤ d.length) :
    Calls Try.prog 121 #[.slice (some ⟨g, 0, none⟩) d.length cap, .int .i64 a, .int .i64 b, .int .i64 n, fv] w fun e w' => e = .returned (.tuple #[]) ∧ ∃ d', SS.Swapped a b n d d' ∧ SRow w' g d' ∧ Chg (fun k => k = g) w w' := by
  obtain ⟨N, hN⟩ : ∃ N, d.length = N := ⟨_, rfl⟩
  have HN := Lib.hid hN
  rw [hN] at hl hb ⊢
  have H := Lib.hid h
  clear h hN
  go_enter Try.func121, Try.ntmps121
  go_wp2
  go_loopw [10] (fun u10 wr => ∃ (i : Nat) (d' : List St), i ≤ n ∧ u10 = .int .i64 i ∧ Hid (SS.Swapped a b i d d') ∧ Hid (SRow wr g d') ∧ Hid (Chg (fun k => k = g) w wr)) (fun u10 _ => n - (intOf u10).toNat)
  case atStart => exact ⟨0, d, by omega, rfl, SS.Swapped.zero _ _ _, H, Chg.refl _ _⟩
  case round =>
    clear H
    obtain ⟨i, d', hi, rfl, HS, HR, HC⟩ := hrel
    have hl' : d'.length = N := by rw [HS.out.1, HN.out]
    by_cases hlt : i < n
    · have HS2 : Hid (SS.Swapped a b (i + 1) d (SS.swp d' (a + i) (b + i))) := HS.out.step hab hlt (by rw [HN.out]; omega)
      have hx : a + i < d'.length := by omega
      have hy : b + i < d'.length := by omega
      obtain ⟨q1, q2⟩ := HR.out.2 (a + i) hx
      obtain ⟨q3, q4⟩ := HR.out.2 (b + i) hy
      obtain ⟨x, hx'⟩ : ∃ x, d'[a + i] = x := ⟨_, rfl⟩
      obtain ⟨y, hy'⟩ : ∃ y, d'[b + i] = y := ⟨_, rfl⟩
      rw [hx'] at q1
      rw [hy'] at q3
      have hh := HR.out.swap hx hy
      rw [hx', hy'] at hh
      obtain ⟨ox, hox⟩ : ∃ o, (a + i) * 3 = o := ⟨_, rfl⟩
      obtain ⟨oy, hoy⟩ : ∃ o, (b + i) * 3 = o := ⟨_, rfl⟩
      have HOX := Lib.hid hox; have HOY := Lib.hid hoy
      have n0 : ¬ oy = ox := by omega
      have n1 : ¬ oy = ox + 1 := by omega
      have n2 : ¬ oy = ox + 2 := by omega
      have n3 : ¬ oy + 1 = ox := by omega
      have n4 : ¬ oy + 2 = ox := by omega
      rw [hox] at q1 q2 hh
      rw [hoy] at q3 q4 hh
      obtain ⟨sx, fx, ax, px, cx⟩ := x
      obtain ⟨sy, fy, ay, py, cy⟩ := y
      obtain ⟨wz, hwz⟩ : ∃ wz, ((((((wr.setCell ⟨g, ox, none⟩ (.int .i64 sy)).setCell ⟨g, ox + 1, none⟩ (.bool fy)).setCell ⟨g, ox + 2, none⟩ (.slice ay py cy)).setCell ⟨g, oy, none⟩ (.int .i64 sx)).setCell ⟨g, oy + 1, none⟩ (.bool fx)).setCell ⟨g, oy + 2, none⟩ (.slice ax px cx)) = wz := ⟨_, rfl⟩
      have SW : Hid (SRow wz.drew g (SS.swp d' (a + i) (b + i)) ∧ Chg (fun k => k = g) w wz.drew) := by
        have h1 : SRow wz g (SS.swp d' (a + i) (b + i)) := by rw [← hwz]; exact hh
        refine ⟨h1.kept rfl (Nat.le_refl _), ?_⟩
        rw [← hwz]
        exact (((((((HC.out.trans (Chg.setCell _ _ _ rfl)).trans (Chg.setCell _ _ _ rfl)).trans (Chg.setCell _ _ _ rfl)).trans (Chg.setCell _ _ _ rfl)).trans (Chg.setCell _ _ _ rfl)).trans (Chg.setCell _ _ _ rfl)).trans (Chg.drew _ _))
      have x0 : wr.cell? ⟨g, ox, none⟩ = some (.int .i64 sx) := q1 0 _ rfl
      have x1 : wr.cell? ⟨g, ox + 1, none⟩ = some (.bool fx) := q1 1 _ rfl
      have x2 : wr.cell? ⟨g, ox + 2, none⟩ = some (.slice ax px cx) := q1 2 _ rfl
      have y0 : wr.cell? ⟨g, oy, none⟩ = some (.int .i64 sy) := q3 0 _ rfl
      have y1 : wr.cell? ⟨g, oy + 1, none⟩ = some (.bool fy) := q3 1 _ rfl
      have y2 : wr.cell? ⟨g, oy + 2, none⟩ = some (.slice ay py cy) := q3 2 _ rfl
      have u0 : wr.frozen? ⟨g, ox, none⟩ = false := (q2 0 (by omega)).2
      have u1 : wr.frozen? ⟨g, ox + 1, none⟩ = false := (q2 1 (by omega)).2
      have u2 : wr.frozen? ⟨g, ox + 2, none⟩ = false := (q2 2 (by omega)).2
      have v0 : wr.frozen? ⟨g, oy, none⟩ = false := (q4 0 (by omega)).2
      have v1 : wr.frozen? ⟨g, oy + 1, none⟩ = false := (q4 1 (by omega)).2
      have v2 : wr.frozen? ⟨g, oy + 2, none⟩ = false := (q4 2 (by omega)).2
      clear hx hy hx' hy' q1 q2 q3 q4 hh HR HC
      clear hl'
      go_upto_region 3 with fail
      go_region
      clear n0 n1 n2 n3 n4 x0 x1 x2 y0 y1 y2 u0 u1 u2 v0 v1 v2 hox hoy hwz
      go_wp2
      go_roundw
      case rel => exact ⟨i + 1, _, by omega, by go_num, HS2, SW.out.1, SW.out.2⟩
      case measure => simp [intOf]; omega
    · obtain rfl : n = i := by omega
      have fin : Hid (∃ d', SS.Swapped a b n d d' ∧ SRow wr g d' ∧ Chg (fun k => k = g) w wr) := ⟨d', HS.out, HR.out, HC.out⟩
      clear HS HR HC hl'
      go_wp2
      go_end0
      exact ⟨rfl, fin.out⟩

end Srt
end Go.Proofs.Ytkegfeghdnpajaa

/- rotate; which of two is less -/
namespace Go.Proofs.Ytkegfeghdnpajaa
open Go.RowKit Go.Bas
namespace Srt

set_option maxRecDepth 100000 in
set_option maxHeartbeats 4000000 in
theorem rotate_any {w : World} {g cap : Nat} {d : List St} (h : SRow w g d) (hl : d.length ≤ 1000000) (fv : Value) {a m b : Nat} (h1 : a < m) (h2 : m < b) (hb : b ≤ d.length) :
    Calls Try.prog 119 #[.slice (some ⟨g, 0, none⟩) d.length cap, .int .i64 a, .int .i64 m, .int .i64 b, fv] w fun e w' => e = .returned (.tuple #[]) ∧ ∃ d', SS.Only a b d d' ∧ SS.seg d' a b = SS.seg d m b ++ SS.seg d a m ∧ SRow w' g d' ∧ Chg (fun k => k = g) w w' := by
  obtain ⟨N, hN⟩ : ∃ N, d.length = N := ⟨_, rfl⟩
  have HN := Lib.hid hN
  rw [hN] at hl hb ⊢
  have H := Lib.hid h
  have R0 : Hid (SS.Rot a b m (m - a) (b - m) (SS.seg d m b ++ SS.seg d a m) d d) := SS.Rot.start (by omega) (by omega) (by rw [HN.out]; omega)
  clear h hN
  go_enter Try.func119, Try.ntmps119
  go_wp2
  go_loopw [10, 11] (fun u10 u11 wr => ∃ (i j : Nat) (d' : List St), 0 < i ∧ 0 < j ∧ i ≤ m - a ∧ j ≤ b - m ∧ u10 = .int .i64 i ∧ u11 = .int .i64 j ∧ Hid (SS.Rot a b m i j (SS.seg d m b ++ SS.seg d a m) d d') ∧ Hid (SRow wr g d') ∧ Hid (Chg (fun k => k = g) w wr)) (fun u10 u11 _ => (intOf u10).toNat + (intOf u11).toNat)
  case atStart => exact ⟨m - a, b - m, d, by omega, by omega, by omega, by omega, by go_num, by go_num, R0, H, Chg.refl _ _⟩
  case round =>
    clear H R0
    obtain ⟨i, j, d', hi, hj, hi1, hj1, rfl, rfl, HT, HR, HC⟩ := hrel
    have hl' : d'.length = N := by rw [HT.out.1.len, HN.out]
    have HL' := Lib.hid hl'
    rcases Nat.lt_trichotomy i j with hij | hij | hij
    · have SW := swapRange_any (cap := cap) HR.out (by rw [HL'.out]; omega) fv (a := m - i) (b := m + j - i) (n := i) (by omega) (by rw [HL'.out]; omega)
      rw [HL'.out] at SW
      have e1 : ((m - i : Nat) : Int) = (m : Int) - i := by omega
      have e2 : ((m + j - i : Nat) : Int) = (m : Int) + j - i := by omega
      rw [e1, e2] at SW
      clear hl' e1 e2
      go_wp2_with (first
        | (go_at_call 121; refine SW.mono ?_; rintro e w2 ⟨rfl, d2, s2, r2, c2⟩))
      have R2 := Lib.hid (HT.out.less hij (by rw [HN.out]; omega) s2)
      have r2 := Lib.hid r2
      have c2 := Lib.hid (HC.out.trans c2)
      clear s2 SW HT HR HC
      go_roundw
      case rel => exact ⟨i, j - i, d2, by omega, by omega, by omega, by omega, by go_num, by go_num, R2, r2, c2⟩
      case measure => simp [intOf]; omega
    · subst hij
      have SW := swapRange_any (cap := cap) HR.out (by rw [HL'.out]; omega) fv (a := m - i) (b := m) (n := i) (by omega) (by rw [HL'.out]; omega)
      rw [HL'.out] at SW
      have e1 : ((m - i : Nat) : Int) = (m : Int) - i := by omega
      rw [e1] at SW
      clear hl' e1
      go_wp2_with (first
        | (go_at_call 121; refine SW.mono ?_; rintro e w2 ⟨rfl, d2, s2, r2, c2⟩))
      have R2 := HT.out.done (by rw [HN.out]; omega) s2
      go_end0
      exact ⟨rfl, d2, R2.1, R2.2, r2, HC.out.trans c2⟩
    · have SW := swapRange_any (cap := cap) HR.out (by rw [HL'.out]; omega) fv (a := m - i) (b := m) (n := j) (by omega) (by rw [HL'.out]; omega)
      rw [HL'.out] at SW
      have e1 : ((m - i : Nat) : Int) = (m : Int) - i := by omega
      rw [e1] at SW
      clear hl' e1
      go_wp2_with (first
        | (go_at_call 121; refine SW.mono ?_; rintro e w2 ⟨rfl, d2, s2, r2, c2⟩))
      have R2 := Lib.hid (HT.out.more hij (by rw [HN.out]; omega) s2)
      have r2 := Lib.hid r2
      have c2 := Lib.hid (HC.out.trans c2)
      clear s2 SW HT HR HC
      go_roundw
      case rel => exact ⟨i - j, j, d2, by omega, by omega, by omega, by omega, by go_num, by go_num, R2, r2, c2⟩
      case measure => simp [intOf]; omega

/-- how two compare -/
def cv (x y : St) : Int := if x.stamp = y.stamp then (if x.flag then (if y.flag then 0 else -1) else (if y.flag then 1 else 0)) else if x.stamp < y.stamp then -1 else 1
def lt (x y : St) : Bool := decide (cv x y < 0)
theorem lt_iff {x y : St} : lt x y = true ↔ x.stamp < y.stamp ∨ (x.stamp = y.stamp ∧ x.flag = true ∧ y.flag = false) := by
  unfold lt cv
  by_cases h : x.stamp = y.stamp
  · cases hx : x.flag <;> cases hy : y.flag <;> simp [h]
  · by_cases h2 : x.stamp < y.stamp <;> simp [h, h2]
theorem lt_false {x y : St} : lt x y = false ↔ ¬ (x.stamp < y.stamp ∨ (x.stamp = y.stamp ∧ x.flag = true ∧ y.flag = false)) := by
  rw [← lt_iff]; simp
theorem lt_swo : SS.SWO lt where
  irr x := by rw [lt_false]; rintro (h | ⟨_, h1, h2⟩); omega; rw [h1] at h2; cases h2
  tr x y z h1 h2 := by
    rw [lt_iff] at h1 h2 ⊢
    rcases h1 with h1 | ⟨h1, h3, h4⟩ <;> rcases h2 with h2 | ⟨h2, h5, h6⟩
    · exact .inl (by omega)
    · exact .inl (by omega)
    · exact .inl (by omega)
    · rw [h4] at h5; cases h5
  ntr x y z h1 h2 := by
    rw [lt_false] at h1 h2 ⊢
    rintro (h | ⟨h, h3, h4⟩)
    · by_cases c : x.stamp < y.stamp
      · exact h1 (.inl c)
      · exact h2 (.inl (by omega))
    · by_cases c : x.stamp < y.stamp
      · exact h1 (.inl c)
      · by_cases c2 : y.stamp < z.stamp
        · exact h2 (.inl c2)
        · cases hy : y.flag with
          | true => exact h2 (.inr ⟨by omega, hy, h4⟩)
          | false => exact h1 (.inr ⟨by omega, h3, hy⟩)

set_option maxHeartbeats 1000000 in
theorem isNaN_any (x : Int) (w : World) : Calls Try.prog 106 #[.int .i64 x] w fun e w' => e = .returned (.bool false) ∧ w = w' := by
  go_enter Try.func106, Try.ntmps106
  go_wp2
  go_ret
  exact ⟨rfl, rfl⟩
set_option maxHeartbeats 1000000 in
theorem compare_any (x y : Int) (w : World) : Calls Try.prog 87 #[.int .i64 x, .int .i64 y] w fun e w' => e = .returned (.int .i64 (if x = y then 0 else if x < y then -1 else 1)) ∧ w = w' := by
  rcases Int.lt_trichotomy x y with h | h | h
  · rw [if_neg (by omega), if_pos h]
    go_enter Try.func87, Try.ntmps87
    go_wp2_with (first
      | (go_at_call 106; refine (isNaN_any _ _).mono ?_; rintro e w2 ⟨rfl, rfl⟩))
    go_ret
    exact ⟨rfl, rfl⟩
  · subst h
    rw [if_pos rfl]
    go_enter Try.func87, Try.ntmps87
    go_wp2_with (first
      | (go_at_call 106; refine (isNaN_any _ _).mono ?_; rintro e w2 ⟨rfl, rfl⟩))
    go_ret
    exact ⟨rfl, rfl⟩
  · have h1 : ¬ x = y := by omega
    have h2 : ¬ x < y := by omega
    rw [if_neg h1, if_neg h2]
    go_enter Try.func87, Try.ntmps87
    go_wp2_with (first
      | (go_at_call 106; refine (isNaN_any _ _).mono ?_; rintro e w2 ⟨rfl, rfl⟩))
    go_ret
    exact ⟨rfl, rfl⟩

set_option maxHeartbeats 2000000 in
theorem cmp_any (x y : St) (w : World) : Calls Try.prog 86 #[.agg #[.int .i64 x.stamp, .bool x.flag, .slice x.pa x.pn x.pc], .agg #[.int .i64 y.stamp, .bool y.flag, .slice y.pa y.pn y.pc]] w fun e w' => e = .returned (.int .i64 (cv x y)) ∧ Below w.heap.size w w' := by
  obtain ⟨sx, fx, ax, px, cx⟩ := x
  obtain ⟨sy, fy, ay, py, cy⟩ := y
  obtain ⟨g, hg⟩ : ∃ g, w.heap.size = g := ⟨_, rfl⟩
  obtain ⟨w1, hw1⟩ : ∃ w1, (w.alloc (.cells #[.int .i64 sx, .bool fx, .slice ax px cx] 122)).alloc (.cells #[.int .i64 sy, .bool fy, .slice ay py cy] 122) = w1 := ⟨_, rfl⟩
  have r1 : w1.heap[g]? = some (.cells #[.int .i64 sx, .bool fx, .slice ax px cx] 122 (0, 0)) := by rw [← hw1, alloc_heap _ _ _ (by simp; omega), ← hg]; exact new_row _ _ _
  have r2 : w1.heap[g + 1]? = some (.cells #[.int .i64 sy, .bool fy, .slice ay py cy] 122 (0, 0)) := by
    rw [← hw1, show g + 1 = (w.alloc (.cells #[.int .i64 sx, .bool fx, .slice ax px cx] 122)).heap.size by simp; omega]; exact new_row _ _ _
  have B1 : Hid (Below g w w1) := by rw [← hw1, ← hg]; exact ((Below.refl _ _).alloc (Nat.le_refl _) _).alloc (by simp) _
  have x0 : w1.cell? ⟨g, 0, none⟩ = some (.int .i64 sx) := by rw [cell_of_row _ _ _ _ _ _ r1]; rfl
  have x1 : w1.cell? ⟨g, 1, none⟩ = some (.bool fx) := by rw [cell_of_row _ _ _ _ _ _ r1]; rfl
  have y0 : w1.cell? ⟨g + 1, 0, none⟩ = some (.int .i64 sy) := by rw [cell_of_row _ _ _ _ _ _ r2]; rfl
  have y1 : w1.cell? ⟨g + 1, 1, none⟩ = some (.bool fy) := by rw [cell_of_row _ _ _ _ _ _ r2]; rfl
  rw [hg]
  clear r1 r2
  unfold cv
  dsimp only
  by_cases hs : sx = sy
  · subst hs
    rw [if_pos rfl]
    cases fx <;> cases fy
    all_goals
      go_enter Try.func86, Try.ntmps86
      go_wp2
      go_ret
      exact ⟨rfl, B1.out⟩
  · rw [if_neg hs]
    have CM := fun w => compare_any sx sy w
    simp only [if_neg hs] at CM
    go_enter Try.func86, Try.ntmps86
    go_wp2_with (first
      | (go_at_call 87; refine (CM _).mono ?_; rintro e w2 ⟨rfl, rfl⟩))
    all_goals (go_ret; exact ⟨rfl, B1.out⟩)

end Srt
end Go.Proofs.Ytkegfeghdnpajaa

/- insertion sort of a part -/
namespace Go.Proofs.Ytkegfeghdnpajaa
open Go.RowKit Go.Bas
namespace Srt

abbrev fv : Value := .func (.func 86) #[] #[]

set_option maxRecDepth 100000 in
set_option maxHeartbeats 8000000 in
theorem insertion_any {w : World} {g cap : Nat} {d : List St} (h : SRow w g d) (hl : d.length ≤ 1000000) {a b : Nat} (h1 : a ≤ b) (hb : b ≤ d.length) :
    Calls Try.prog 114 #[.slice (some ⟨g, 0, none⟩) d.length cap, .int .i64 a, .int .i64 b, .func (.func 86) #[] #[]] w fun e w' => e = .returned (.tuple #[]) ∧ ∃ d', SS.Sort1 lt a b d d' ∧ SRow w' g d' ∧ Chg (fun k => k = g) w w' := by
  have hrun := callFunc_run Try.func86 (by kernel_rfl) (by kernel_rfl)
  obtain ⟨N, hN⟩ : ∃ N, d.length = N := ⟨_, rfl⟩
  have HN := Lib.hid hN
  rw [hN] at hl hb ⊢
  have H := Lib.hid h
  clear h hN
  go_enter Try.func114, Try.ntmps114
  go_wp2
  go_loopw [8, 9] (fun u8 u9 wr => ∃ (i : Nat) (d0 : List St), a + 1 ≤ i ∧ u8 = .int .i64 i ∧ Hid (SS.Sort1 lt a (min i b) d d0) ∧ Hid (SRow wr g d0) ∧ Hid (Chg (fun k => k = g) w wr)) (fun u8 _ _ => b - (intOf u8).toNat)
  case atStart => exact ⟨a + 1, d, by omega, by go_num, SS.Sort1.none (SS.sorted_one d (by rw [HN.out]; omega) (by omega)), H, Chg.refl _ _⟩
  case round =>
    clear H
    obtain ⟨i, d0, hi, rfl, HS, HR0, HC0⟩ := hrel
    have hl0 : d0.length = N := by rw [HS.out.only.len, HN.out]
    have HL0 := Lib.hid hl0
    by_cases hib : i < b
    · have hS : Hid (SS.Sort1 lt a i d d0) := by have := HS.out; rwa [Nat.min_eq_left (by omega)] at this
      obtain ⟨xi, hxi⟩ : ∃ x, d0[i]? = some x := ⟨d0[i]'(by omega), List.getElem?_eq_getElem (by omega)⟩
      have HXI := Lib.hid hxi
      have G0 : Hid (SS.Gone i i d0 d0) := SS.Gone.zero _ _
      clear hl0 hxi HS
      go_wp2
      obtain ⟨wo, rfl⟩ : ∃ wo : World, wo = wr := ⟨_, rfl⟩
      go_loopw [9] (fun u9 wr => ∃ (j : Nat) (d' : List St), a ≤ j ∧ j ≤ i ∧ u9 = .int .i64 j ∧ Hid (SS.Gone i j d0 d') ∧ Hid (SRow wr g d') ∧ Hid (Chg (fun k => k = g) w wr) ∧ Hid (j = i ∨ ∃ y, d0[j]? = some y ∧ lt xi y = true)) (fun u9 _ => (intOf u9).toNat)
      case atStart => exact ⟨i, d0, by omega, Nat.le_refl _, rfl, G0, HR0, HC0, .inl rfl⟩
      case round =>
        clear G0 HR0 HC0
        obtain ⟨j, d', haj, hji, rfl, HG, HR, HC, HLT⟩ := hrel
        have hl' : d'.length = N := by rw [HG.out.1, HL0.out]
        have HL' := Lib.hid hl'
        have hgone : ∀ d2, SS.Gone i j d0 d2 → d2[j]? = some xi := fun d2 hg2 => by
          obtain ⟨_, hh | hh⟩ := hg2
          · rw [hh.2, if_pos rfl]; exact HXI.out
          · rw [hh.2, if_pos rfl]; exact HXI.out
        have HGN := Lib.hid hgone
        clear hgone
        by_cases hja : a < j
        · obtain ⟨jp, rfl⟩ : ∃ jp, j = jp + 1 := ⟨j - 1, by omega⟩
          have hx : jp + 1 < d'.length := by omega
          have hy : jp < d'.length := by omega
          have hjb : decide ((a : Int) < (jp : Int) + 1) = true := by simp; omega
          have e1 : ((jp + 1 : Nat) : Int) - 1 = (jp : Int) := by omega
          obtain ⟨q1, _⟩ := HR.out.2 (jp + 1) hx
          obtain ⟨q3, _⟩ := HR.out.2 (jp) hy
          obtain ⟨x, hx'⟩ : ∃ x, d'[jp + 1] = x := ⟨_, rfl⟩
          obtain ⟨y, hy'⟩ : ∃ y, d'[jp] = y := ⟨_, rfl⟩
          rw [hx'] at q1
          rw [hy'] at q3
          have Ex : Hid (d'[jp + 1]? = some x) := by rw [Hid, List.getElem?_eq_getElem hx, hx']
          have Ey : Hid (d'[jp]? = some y) := by rw [Hid, List.getElem?_eq_getElem hy, hy']
          have c0 : ∀ e : Ext wr.heap.size wr, e.1.cell? ⟨g, (jp + 1) * 3, none⟩ = some (.int .i64 x.stamp) := fun e => rangeAt_kept q1 (e.2.block g HR.out.1) 0 _ rfl
          have c1 : ∀ e : Ext wr.heap.size wr, e.1.cell? ⟨g, (jp + 1) * 3 + 1, none⟩ = some (.bool x.flag) := fun e => rangeAt_kept q1 (e.2.block g HR.out.1) 1 _ rfl
          have c2 : ∀ e : Ext wr.heap.size wr, e.1.cell? ⟨g, (jp + 1) * 3 + 2, none⟩ = some (.slice x.pa x.pn x.pc) := fun e => rangeAt_kept q1 (e.2.block g HR.out.1) 2 _ rfl
          have c3 : ∀ e : Ext wr.heap.size wr, e.1.cell? ⟨g, (jp) * 3, none⟩ = some (.int .i64 y.stamp) := fun e => rangeAt_kept q3 (e.2.block g HR.out.1) 0 _ rfl
          have c4 : ∀ e : Ext wr.heap.size wr, e.1.cell? ⟨g, (jp) * 3 + 1, none⟩ = some (.bool y.flag) := fun e => rangeAt_kept q3 (e.2.block g HR.out.1) 1 _ rfl
          have c5 : ∀ e : Ext wr.heap.size wr, e.1.cell? ⟨g, (jp) * 3 + 2, none⟩ = some (.slice y.pa y.pn y.pc) := fun e => rangeAt_kept q3 (e.2.block g HR.out.1) 2 _ rfl
          clear q1 q3 hx' hy'
          go_upto_region 4 with fail
          refine wp_region_mono wr.heap.size (by kernel_rfl) (by kernel_rfl) ?_
          repeat (any_goals (first
            | go_big_quiet_step ((go_at_call 86; exact Calls.ext (Nat.le_refl _) (cmp_any x y _)))))
          refine wpQuiet_nil ?_
          rintro ⟨wx, hbx⟩
          dsimp only
          have HR2 : Hid (SRow wx g d') := HR.out.below hbx HR.out.1
          have HC2 : Hid (Chg (fun k => k = g) w wx) := HC.out.trans ((Chg.of_below hbx).mono (fun k hk h => by omega))
          clear c0 c1 c2 c3 c4 c5 hbx HR HC
          by_cases hc : cv x y < 0
          · have HS2 : Hid (SS.Gone i jp d0 (SS.swp d' (jp + 1) jp)) := HG.out.down (by omega) (by have := HL0.out; omega)
            have HLT2 : Hid (jp = i ∨ ∃ y, d0[jp]? = some y ∧ lt xi y = true) := by
              right
              have hxx := HGN.out _ HG.out
              rw [Ex.out] at hxx
              injection hxx with hxx
              refine ⟨y, ?_, by rw [← hxx]; exact decide_eq_true hc⟩
              have := HG.out.2
              rcases this with ⟨hij, hh⟩ | ⟨_, hh⟩
              · have hk := hh jp
                rw [if_neg (by omega), if_neg (by omega)] at hk
                rw [← hk]; exact Ey.out
              · have hk := hh jp
                rw [if_neg (by omega), if_neg (by omega)] at hk
                rw [← hk]; exact Ey.out
            have hl'2 : d'.length = N := HL'.out
            clear Ex Ey hl' hjb HLT HGN
            have hx : jp + 1 < d'.length := by omega
            have hy : jp < d'.length := by omega
            obtain ⟨q1, q2⟩ := HR2.out.2 (jp + 1) hx
            obtain ⟨q3, q4⟩ := HR2.out.2 (jp) hy
            obtain ⟨x, hx'⟩ : ∃ x, d'[jp + 1] = x := ⟨_, rfl⟩
            obtain ⟨y, hy'⟩ : ∃ y, d'[jp] = y := ⟨_, rfl⟩
            rw [hx'] at q1
            rw [hy'] at q3
            have hh := HR2.out.swap hx hy
            rw [hx', hy'] at hh
            obtain ⟨ox, hox⟩ : ∃ o, (jp + 1) * 3 = o := ⟨_, rfl⟩
            obtain ⟨oy, hoy⟩ : ∃ o, (jp) * 3 = o := ⟨_, rfl⟩
            have HOX := Lib.hid hox; have HOY := Lib.hid hoy
            have n0 : ¬ oy = ox := by omega
            have n1 : ¬ oy = ox + 1 := by omega
            have n2 : ¬ oy = ox + 2 := by omega
            have n3 : ¬ oy + 1 = ox := by omega
            have n4 : ¬ oy + 2 = ox := by omega
            rw [hox] at q1 q2 hh
            rw [hoy] at q3 q4 hh
            obtain ⟨sx, fx, ax, px, cx⟩ := x
            obtain ⟨sy, fy, ay, py, cy⟩ := y
            obtain ⟨wz, hwz⟩ : ∃ wz, ((((((wx.setCell ⟨g, ox, none⟩ (.int .i64 sy)).setCell ⟨g, ox + 1, none⟩ (.bool fy)).setCell ⟨g, ox + 2, none⟩ (.slice ay py cy)).setCell ⟨g, oy, none⟩ (.int .i64 sx)).setCell ⟨g, oy + 1, none⟩ (.bool fx)).setCell ⟨g, oy + 2, none⟩ (.slice ax px cx)) = wz := ⟨_, rfl⟩
            have SW : Hid (SRow wz.drew g (SS.swp d' (jp + 1) (jp)) ∧ Chg (fun k => k = g) w wz.drew) := by
              have h1 : SRow wz g (SS.swp d' (jp + 1) (jp)) := by rw [← hwz]; exact hh
              refine ⟨h1.kept rfl (Nat.le_refl _), ?_⟩
              rw [← hwz]
              exact (((((((HC2.out.trans (Chg.setCell _ _ _ rfl)).trans (Chg.setCell _ _ _ rfl)).trans (Chg.setCell _ _ _ rfl)).trans (Chg.setCell _ _ _ rfl)).trans (Chg.setCell _ _ _ rfl)).trans (Chg.setCell _ _ _ rfl)).trans (Chg.drew _ _))
            have x0 : wx.cell? ⟨g, ox, none⟩ = some (.int .i64 sx) := q1 0 _ rfl
            have x1 : wx.cell? ⟨g, ox + 1, none⟩ = some (.bool fx) := q1 1 _ rfl
            have x2 : wx.cell? ⟨g, ox + 2, none⟩ = some (.slice ax px cx) := q1 2 _ rfl
            have y0 : wx.cell? ⟨g, oy, none⟩ = some (.int .i64 sy) := q3 0 _ rfl
            have y1 : wx.cell? ⟨g, oy + 1, none⟩ = some (.bool fy) := q3 1 _ rfl
            have y2 : wx.cell? ⟨g, oy + 2, none⟩ = some (.slice ay py cy) := q3 2 _ rfl
            have u0 : wx.frozen? ⟨g, ox, none⟩ = false := (q2 0 (by omega)).2
            have u1 : wx.frozen? ⟨g, ox + 1, none⟩ = false := (q2 1 (by omega)).2
            have u2 : wx.frozen? ⟨g, ox + 2, none⟩ = false := (q2 2 (by omega)).2
            have v0 : wx.frozen? ⟨g, oy, none⟩ = false := (q4 0 (by omega)).2
            have v1 : wx.frozen? ⟨g, oy + 1, none⟩ = false := (q4 1 (by omega)).2
            have v2 : wx.frozen? ⟨g, oy + 2, none⟩ = false := (q4 2 (by omega)).2
            clear hx hy hx' hy' q1 q2 q3 q4 hh HR2 HC2
            clear hl'2
            go_wp2_with fail
            go_region
            clear n0 n1 n2 n3 n4 x0 x1 x2 y0 y1 y2 u0 u1 u2 v0 v1 v2 hox hoy hwz
            go_wp2
            go_roundw
            case rel => exact ⟨jp, _, by omega, by omega, rfl, HS2, SW.out.1, SW.out.2, HLT2⟩
            case measure => simp [intOf]
          · have hlf : lt xi y = false := by
              have hxx := HGN.out _ HG.out
              rw [Ex.out] at hxx
              injection hxx with hxx
              rw [← hxx]; exact decide_eq_false hc
            have hy0 : d0[jp]? = some y := by
              rcases HG.out.2 with ⟨hij, hh⟩ | ⟨_, hh⟩
              · have hk := hh jp
                rw [if_neg (by omega), if_neg (by omega)] at hk
                rw [← hk]; exact Ey.out
              · have hk := hh jp
                rw [if_neg (by omega), if_neg (by omega)] at hk
                rw [← hk]; exact Ey.out
            have FIN : Hid (SS.Sort1 lt a (min (i + 1) b) d d') := by
              rw [Hid, Nat.min_eq_left (by omega)]
              refine hS.out.comp (SS.ins_down lt_swo (s := jp + 1) (by omega) (by omega) (by have := HL0.out; omega) hS.out.sorted HXI.out HLT.out (.inr ⟨y, ?_, hlf⟩) HG.out) (by omega) (by omega) (by have := HN.out; omega)
              rw [show jp + 1 - 1 = jp by omega]; exact hy0
            clear Ex Ey hl' hjb HLT HGN hlf hy0 HG hx hy e1
            go_wp2
            go_roundw
            case rel => exact ⟨i + 1, d', by omega, by go_num, FIN, HR2, HC2⟩
            case measure => simp [intOf]; omega
        · obtain rfl : a = j := by omega
          have FIN : Hid (SS.Sort1 lt a (min (i + 1) b) d d') := by
            rw [Hid, Nat.min_eq_left (by omega)]
            exact hS.out.comp (SS.ins_down lt_swo (s := a) (by omega) (by omega) (by have := HL0.out; omega) hS.out.sorted HXI.out HLT.out (.inl rfl) HG.out) (by omega) (by omega) (by have := HN.out; omega)
          clear hl' HLT HGN HG
          go_upto_region 4 with fail
          refine wp_region_mono wr.heap.size (by kernel_rfl) (by kernel_rfl) ?_
          repeat (any_goals (first
            | go_big_quiet_step (fail)))
          refine wpQuiet_nil ?_
          rintro ⟨wx, hbx⟩
          dsimp only
          have HR2 : Hid (SRow wx g d') := HR.out.below hbx HR.out.1
          have HC2 : Hid (Chg (fun k => k = g) w wx) := HC.out.trans ((Chg.of_below hbx).mono (fun k hk h => by have := HR.out.1; omega))
          clear hbx HR HC
          go_wp2
          go_roundw
          case rel => exact ⟨i + 1, d', by omega, by go_num, FIN, HR2, HC2⟩
          case measure => simp [intOf]; omega
    · have FIN : Hid (SS.Sort1 lt a b d d0) := by have := HS.out; rwa [Nat.min_eq_right (by omega)] at this
      clear HS hl0
      go_wp2
      go_end0
      exact ⟨rfl, d0, FIN.out, HR0.out, HC0.out⟩

end Srt
end Go.Proofs.Ytkegfeghdnpajaa

/- two sorted parts become one: where one of them is a single thing -/
namespace Go.Proofs.Ytkegfeghdnpajaa
open Go.RowKit Go.Bas
namespace Srt

set_option maxRecDepth 100000 in
set_option maxHeartbeats 8000000 in
theorem merge1_any {w : World} {g cap : Nat} {d : List St} (h : SRow w g d) (hl : d.length ≤ 1000000) {a b : Nat} (h1 : a + 1 < b) (hb : b ≤ d.length) (hs : SS.Sorted lt (SS.seg d (a + 1) b)) :
    Calls Try.prog 115 #[.slice (some ⟨g, 0, none⟩) d.length cap, .int .i64 a, .int .i64 ((a : Int) + 1), .int .i64 b, .func (.func 86) #[] #[]] w fun e w' => e = .returned (.tuple #[]) ∧ ∃ d', SS.Sort1 lt a b d d' ∧ SRow w' g d' ∧ Chg (fun k => k = g) w w' := by
  have hrun := callFunc_run Try.func86 (by kernel_rfl) (by kernel_rfl)
  obtain ⟨N, hN⟩ : ∃ N, d.length = N := ⟨_, rfl⟩
  have HN := Lib.hid hN
  obtain ⟨x, hx⟩ : ∃ x, d[a]? = some x := ⟨d[a]'(by omega), List.getElem?_eq_getElem (by omega)⟩
  have HX := Lib.hid hx
  rw [hN] at hl hb ⊢
  have H := Lib.hid h
  have HS := Lib.hid hs
  clear h hN hs hx
  go_enter Try.func115, Try.ntmps115
  go_wp2
  go_loopw [10, 11, 12] (fun u10 u11 _ wr => ∃ (i j : Nat), a + 1 ≤ i ∧ i ≤ j ∧ j ≤ b ∧ u10 = .int .i64 i ∧ u11 = .int .i64 j ∧ Hid (i = a + 1 ∨ ∃ y, d[i - 1]? = some y ∧ lt y x = true) ∧ Hid (j = b ∨ ∃ y, d[j]? = some y ∧ lt y x = false) ∧ Hid (SRow wr g d) ∧ Hid (Chg (fun k => k = g) w wr)) (fun u10 u11 _ _ => (intOf u11).toNat - (intOf u10).toNat)
  case atStart => exact ⟨a + 1, b, by omega, by omega, by omega, by go_num, rfl, .inl rfl, .inl rfl, H, Chg.refl _ _⟩
  case round =>
    clear H
    obtain ⟨i, j, hi, hij, hjb, rfl, rfl, HLO, HHI, HR, HC⟩ := hrel
    by_cases hlt : i < j
    · obtain ⟨hh, hhe, hh1, hh2⟩ : ∃ hh : Nat, ((i : Int) + (j : Int)) / 2 = (hh : Int) ∧ i ≤ hh ∧ hh < j := ⟨(i + j) / 2, by omega, by omega, by omega⟩
      have hy : hh < d.length := by have := HN.out; omega
      have hz : a < d.length := by have := HN.out; omega
      obtain ⟨q1, _⟩ := HR.out.2 (hh) hy
      obtain ⟨q3, _⟩ := HR.out.2 (a) hz
      obtain ⟨y, hx'⟩ : ∃ x, d[hh] = x := ⟨_, rfl⟩
      obtain ⟨z, hy'⟩ : ∃ y, d[a] = y := ⟨_, rfl⟩
      rw [hx'] at q1
      rw [hy'] at q3
      have Ey : Hid (d[hh]? = some y) := by rw [Hid, List.getElem?_eq_getElem hy, hx']
      have Ez : Hid (d[a]? = some z) := by rw [Hid, List.getElem?_eq_getElem hz, hy']
      have c0 : ∀ e : Ext wr.heap.size wr, e.1.cell? ⟨g, (hh) * 3, none⟩ = some (.int .i64 y.stamp) := fun e => rangeAt_kept q1 (e.2.block g HR.out.1) 0 _ rfl
      have c1 : ∀ e : Ext wr.heap.size wr, e.1.cell? ⟨g, (hh) * 3 + 1, none⟩ = some (.bool y.flag) := fun e => rangeAt_kept q1 (e.2.block g HR.out.1) 1 _ rfl
      have c2 : ∀ e : Ext wr.heap.size wr, e.1.cell? ⟨g, (hh) * 3 + 2, none⟩ = some (.slice y.pa y.pn y.pc) := fun e => rangeAt_kept q1 (e.2.block g HR.out.1) 2 _ rfl
      have c3 : ∀ e : Ext wr.heap.size wr, e.1.cell? ⟨g, (a) * 3, none⟩ = some (.int .i64 z.stamp) := fun e => rangeAt_kept q3 (e.2.block g HR.out.1) 0 _ rfl
      have c4 : ∀ e : Ext wr.heap.size wr, e.1.cell? ⟨g, (a) * 3 + 1, none⟩ = some (.bool z.flag) := fun e => rangeAt_kept q3 (e.2.block g HR.out.1) 1 _ rfl
      have c5 : ∀ e : Ext wr.heap.size wr, e.1.cell? ⟨g, (a) * 3 + 2, none⟩ = some (.slice z.pa z.pn z.pc) := fun e => rangeAt_kept q3 (e.2.block g HR.out.1) 2 _ rfl
      clear q1 q3 hx' hy'
      go_upto_region 5 with fail
      refine wp_region_mono wr.heap.size (by kernel_rfl) (by kernel_rfl) ?_
      repeat (any_goals (first
        | go_big_quiet_step ((go_at_call 86; exact Calls.ext (Nat.le_refl _) (cmp_any y z _)))))
      refine wpQuiet_nil ?_
      rintro ⟨wx, hbx⟩
      dsimp only
      have HR2 : Hid (SRow wx g d) := HR.out.below hbx HR.out.1
      have HC2 : Hid (Chg (fun k => k = g) w wx) := HC.out.trans ((Chg.of_below hbx).mono (fun k hk h => by omega))
      clear c0 c1 c2 c3 c4 c5 hbx HR HC
      have hzx : z = x := by
        have := Ez.out
        rw [HX.out] at this
        injection this with this
        exact this.symm
      subst hzx
      clear hy hz Ez
      by_cases hc : cv y z < 0
      · have HLO2 : Hid (hh + 1 = a + 1 ∨ ∃ y, d[hh + 1 - 1]? = some y ∧ lt y z = true) := .inr ⟨y, Ey.out, decide_eq_true hc⟩
        clear Ey HLO
        go_wp2
        go_roundw
        case rel => exact ⟨hh + 1, j, by omega, by omega, by omega, by go_num, rfl, HLO2, HHI, HR2, HC2⟩
        case measure => simp [intOf]; omega
      · have HHI2 : Hid (hh = b ∨ ∃ y, d[hh]? = some y ∧ lt y z = false) := .inr ⟨y, Ey.out, decide_eq_false hc⟩
        clear Ey HHI
        go_wp2
        go_roundw
        case rel => exact ⟨i, hh, by omega, by omega, by omega, rfl, rfl, HLO, HHI2, HR2, HC2⟩
        case measure => simp [intOf]; omega
    · obtain rfl : i = j := by omega
      obtain ⟨e, rfl⟩ : ∃ e, i = e + 1 := ⟨i - 1, by omega⟩
      have FIN : ∀ d', SS.Gone a e d d' → SS.Sort1 lt a b d d' := fun d' hg => SS.ins_up lt_swo (e := e + 1) (by omega) (by omega) (by have := HN.out; omega) HS.out HX.out HLO.out HHI.out hg
      have FIN2 := Lib.hid FIN
      clear FIN HS HX HLO HHI
      go_wp2
      obtain ⟨wo, rfl⟩ : ∃ wo : World, wo = wr := ⟨_, rfl⟩
      go_loopw [13] (fun u13 wr => ∃ (k : Nat) (d' : List St), a ≤ k ∧ k ≤ e ∧ u13 = .int .i64 k ∧ Hid (SS.Gone a k d d') ∧ Hid (SRow wr g d') ∧ Hid (Chg (fun k => k = g) w wr)) (fun u13 _ => e - (intOf u13).toNat)
      case atStart => exact ⟨a, d, by omega, by omega, rfl, SS.Gone.zero _ _, HR, HC⟩
      case round =>
        clear HR HC
        obtain ⟨k, d', hk1, hk2, rfl, HG, HR, HC⟩ := hrel
        by_cases hke : k < e
        · have hl' : d'.length = N := by rw [HG.out.1, HN.out]
          have HG2 : Hid (SS.Gone a (k + 1) d (SS.swp d' k (k + 1))) := HG.out.up (by omega) (by have := HN.out; omega)
          have hx : k < d'.length := by omega
          have hy : k + 1 < d'.length := by omega
          obtain ⟨q1, q2⟩ := HR.out.2 (k) hx
          obtain ⟨q3, q4⟩ := HR.out.2 (k + 1) hy
          obtain ⟨x, hx'⟩ : ∃ x, d'[k] = x := ⟨_, rfl⟩
          obtain ⟨y, hy'⟩ : ∃ y, d'[k + 1] = y := ⟨_, rfl⟩
          rw [hx'] at q1
          rw [hy'] at q3
          have hh := HR.out.swap hx hy
          rw [hx', hy'] at hh
          obtain ⟨ox, hox⟩ : ∃ o, (k) * 3 = o := ⟨_, rfl⟩
          obtain ⟨oy, hoy⟩ : ∃ o, (k + 1) * 3 = o := ⟨_, rfl⟩
          have HOX := Lib.hid hox; have HOY := Lib.hid hoy
          have n0 : ¬ oy = ox := by omega
          have n1 : ¬ oy = ox + 1 := by omega
          have n2 : ¬ oy = ox + 2 := by omega
          have n3 : ¬ oy + 1 = ox := by omega
          have n4 : ¬ oy + 2 = ox := by omega
          rw [hox] at q1 q2 hh
          rw [hoy] at q3 q4 hh
          obtain ⟨sx, fx, ax, px, cx⟩ := x
          obtain ⟨sy, fy, ay, py, cy⟩ := y
          obtain ⟨wz, hwz⟩ : ∃ wz, ((((((wr.setCell ⟨g, ox, none⟩ (.int .i64 sy)).setCell ⟨g, ox + 1, none⟩ (.bool fy)).setCell ⟨g, ox + 2, none⟩ (.slice ay py cy)).setCell ⟨g, oy, none⟩ (.int .i64 sx)).setCell ⟨g, oy + 1, none⟩ (.bool fx)).setCell ⟨g, oy + 2, none⟩ (.slice ax px cx)) = wz := ⟨_, rfl⟩
          have SW : Hid (SRow wz.drew g (SS.swp d' (k) (k + 1)) ∧ Chg (fun k => k = g) w wz.drew) := by
            have h1 : SRow wz g (SS.swp d' (k) (k + 1)) := by rw [← hwz]; exact hh
            refine ⟨h1.kept rfl (Nat.le_refl _), ?_⟩
            rw [← hwz]
            exact (((((((HC.out.trans (Chg.setCell _ _ _ rfl)).trans (Chg.setCell _ _ _ rfl)).trans (Chg.setCell _ _ _ rfl)).trans (Chg.setCell _ _ _ rfl)).trans (Chg.setCell _ _ _ rfl)).trans (Chg.setCell _ _ _ rfl)).trans (Chg.drew _ _))
          have x0 : wr.cell? ⟨g, ox, none⟩ = some (.int .i64 sx) := q1 0 _ rfl
          have x1 : wr.cell? ⟨g, ox + 1, none⟩ = some (.bool fx) := q1 1 _ rfl
          have x2 : wr.cell? ⟨g, ox + 2, none⟩ = some (.slice ax px cx) := q1 2 _ rfl
          have y0 : wr.cell? ⟨g, oy, none⟩ = some (.int .i64 sy) := q3 0 _ rfl
          have y1 : wr.cell? ⟨g, oy + 1, none⟩ = some (.bool fy) := q3 1 _ rfl
          have y2 : wr.cell? ⟨g, oy + 2, none⟩ = some (.slice ay py cy) := q3 2 _ rfl
          have u0 : wr.frozen? ⟨g, ox, none⟩ = false := (q2 0 (by omega)).2
          have u1 : wr.frozen? ⟨g, ox + 1, none⟩ = false := (q2 1 (by omega)).2
          have u2 : wr.frozen? ⟨g, ox + 2, none⟩ = false := (q2 2 (by omega)).2
          have v0 : wr.frozen? ⟨g, oy, none⟩ = false := (q4 0 (by omega)).2
          have v1 : wr.frozen? ⟨g, oy + 1, none⟩ = false := (q4 1 (by omega)).2
          have v2 : wr.frozen? ⟨g, oy + 2, none⟩ = false := (q4 2 (by omega)).2
          clear hx hy hx' hy' q1 q2 q3 q4 hh HR HC
          clear hl' HG
          go_upto_region 11 with fail
          go_region
          clear n0 n1 n2 n3 n4 x0 x1 x2 y0 y1 y2 u0 u1 u2 v0 v1 v2 hox hoy hwz
          go_wp2
          go_roundw
          case rel => exact ⟨k + 1, _, by omega, by omega, by go_num, HG2, SW.out.1, SW.out.2⟩
          case measure => simp [intOf]; omega
        · obtain rfl : k = e := by omega
          have hf := Lib.hid (FIN2.out _ HG.out)
          clear HG FIN2
          go_wp2
          refine bodyPost_ret (results_none rfl _ _ _) rfl ?_
          exact ⟨rfl, d', hf.out, HR.out, HC.out⟩

set_option maxRecDepth 100000 in
set_option maxHeartbeats 8000000 in
theorem merge2_any {w : World} {g cap : Nat} {d : List St} (h : SRow w g d) (hl : d.length ≤ 1000000) {a m : Nat} (h1 : a + 1 < m) (hb : m + 1 ≤ d.length) (hs : SS.Sorted lt (SS.seg d a m)) :
    Calls Try.prog 115 #[.slice (some ⟨g, 0, none⟩) d.length cap, .int .i64 a, .int .i64 m, .int .i64 ((m : Int) + 1), .func (.func 86) #[] #[]] w fun e w' => e = .returned (.tuple #[]) ∧ ∃ d', SS.Sort1 lt a (m + 1) d d' ∧ SRow w' g d' ∧ Chg (fun k => k = g) w w' := by
  have hrun := callFunc_run Try.func86 (by kernel_rfl) (by kernel_rfl)
  obtain ⟨N, hN⟩ : ∃ N, d.length = N := ⟨_, rfl⟩
  have HN := Lib.hid hN
  obtain ⟨y, hy⟩ : ∃ y, d[m]? = some y := ⟨d[m]'(by omega), List.getElem?_eq_getElem (by omega)⟩
  have HY := Lib.hid hy
  rw [hN] at hl hb ⊢
  have H := Lib.hid h
  have HS := Lib.hid hs
  have hd1 : ((m : Int) - (a : Int) == 1) = false := by simp; omega
  clear h hN hs hy
  go_enter Try.func115, Try.ntmps115
  go_wp2
  clear hd1
  go_loopw [14, 15, 16] (fun u14 u15 _ wr => ∃ (i j : Nat), a ≤ i ∧ i ≤ j ∧ j ≤ m ∧ u14 = .int .i64 i ∧ u15 = .int .i64 j ∧ Hid (i = a ∨ ∃ x, d[i - 1]? = some x ∧ lt y x = false) ∧ Hid (j = m ∨ ∃ x, d[j]? = some x ∧ lt y x = true) ∧ Hid (SRow wr g d) ∧ Hid (Chg (fun k => k = g) w wr)) (fun u14 u15 _ _ => (intOf u15).toNat - (intOf u14).toNat)
  case atStart => exact ⟨a, m, by omega, by omega, by omega, rfl, rfl, .inl rfl, .inl rfl, H, Chg.refl _ _⟩
  case round =>
    clear H
    obtain ⟨i, j, hi, hij, hjb, rfl, rfl, HLO, HHI, HR, HC⟩ := hrel
    by_cases hlt : i < j
    · obtain ⟨hh, hhe, hh1, hh2⟩ : ∃ hh : Nat, ((i : Int) + (j : Int)) / 2 = (hh : Int) ∧ i ≤ hh ∧ hh < j := ⟨(i + j) / 2, by omega, by omega, by omega⟩
      have hz : m < d.length := by have := HN.out; omega
      have hx : hh < d.length := by have := HN.out; omega
      obtain ⟨q1, _⟩ := HR.out.2 (m) hz
      obtain ⟨q3, _⟩ := HR.out.2 (hh) hx
      obtain ⟨z, hx'⟩ : ∃ x, d[m] = x := ⟨_, rfl⟩
      obtain ⟨x, hy'⟩ : ∃ y, d[hh] = y := ⟨_, rfl⟩
      rw [hx'] at q1
      rw [hy'] at q3
      have Ez : Hid (d[m]? = some z) := by rw [Hid, List.getElem?_eq_getElem hz, hx']
      have Ex : Hid (d[hh]? = some x) := by rw [Hid, List.getElem?_eq_getElem hx, hy']
      have c0 : ∀ e : Ext wr.heap.size wr, e.1.cell? ⟨g, (m) * 3, none⟩ = some (.int .i64 z.stamp) := fun e => rangeAt_kept q1 (e.2.block g HR.out.1) 0 _ rfl
      have c1 : ∀ e : Ext wr.heap.size wr, e.1.cell? ⟨g, (m) * 3 + 1, none⟩ = some (.bool z.flag) := fun e => rangeAt_kept q1 (e.2.block g HR.out.1) 1 _ rfl
      have c2 : ∀ e : Ext wr.heap.size wr, e.1.cell? ⟨g, (m) * 3 + 2, none⟩ = some (.slice z.pa z.pn z.pc) := fun e => rangeAt_kept q1 (e.2.block g HR.out.1) 2 _ rfl
      have c3 : ∀ e : Ext wr.heap.size wr, e.1.cell? ⟨g, (hh) * 3, none⟩ = some (.int .i64 x.stamp) := fun e => rangeAt_kept q3 (e.2.block g HR.out.1) 0 _ rfl
      have c4 : ∀ e : Ext wr.heap.size wr, e.1.cell? ⟨g, (hh) * 3 + 1, none⟩ = some (.bool x.flag) := fun e => rangeAt_kept q3 (e.2.block g HR.out.1) 1 _ rfl
      have c5 : ∀ e : Ext wr.heap.size wr, e.1.cell? ⟨g, (hh) * 3 + 2, none⟩ = some (.slice x.pa x.pn x.pc) := fun e => rangeAt_kept q3 (e.2.block g HR.out.1) 2 _ rfl
      clear q1 q3 hx' hy'
      go_upto_region 17 with fail
      refine wp_region_mono wr.heap.size (by kernel_rfl) (by kernel_rfl) ?_
      repeat (any_goals (first
        | go_big_quiet_step ((go_at_call 86; exact Calls.ext (Nat.le_refl _) (cmp_any z x _)))))
      refine wpQuiet_nil ?_
      rintro ⟨wx, hbx⟩
      dsimp only
      have HR2 : Hid (SRow wx g d) := HR.out.below hbx HR.out.1
      have HC2 : Hid (Chg (fun k => k = g) w wx) := HC.out.trans ((Chg.of_below hbx).mono (fun k hk h => by omega))
      clear c0 c1 c2 c3 c4 c5 hbx HR HC
      have hzx : z = y := by
        have := Ez.out
        rw [HY.out] at this
        injection this with this
        exact this.symm
      subst hzx
      clear hx hz Ez
      by_cases hc : cv z x < 0
      · have HHI2 : Hid (hh = m ∨ ∃ x, d[hh]? = some x ∧ lt z x = true) := .inr ⟨x, Ex.out, decide_eq_true hc⟩
        have hcd : (!decide (cv z x < 0)) = false := by simp [hc]
        rw [hcd]
        clear Ex HHI hc
        go_wp2
        go_roundw
        case rel => exact ⟨i, hh, by omega, by omega, by omega, rfl, rfl, HLO, HHI2, HR2, HC2⟩
        case measure => simp [intOf]; omega
      · have HLO2 : Hid (hh + 1 = a ∨ ∃ x, d[hh + 1 - 1]? = some x ∧ lt z x = false) := .inr ⟨x, Ex.out, decide_eq_false hc⟩
        have hcd : (!decide (cv z x < 0)) = true := by simp [hc]
        rw [hcd]
        clear Ex HLO hc
        go_wp2
        go_roundw
        case rel => exact ⟨hh + 1, j, by omega, by omega, by omega, by go_num, rfl, HLO2, HHI, HR2, HC2⟩
        case measure => simp [intOf]; omega
    · obtain rfl : i = j := by omega
      have FIN : ∀ d', SS.Gone m i d d' → SS.Sort1 lt a (m + 1) d d' := fun d' hg => SS.ins_down lt_swo (s := i) (by omega) (by omega) (by have := HN.out; omega) HS.out HY.out HHI.out HLO.out hg
      have FIN2 := Lib.hid FIN
      clear FIN HS HY HLO HHI
      go_wp2
      obtain ⟨wo, rfl⟩ : ∃ wo : World, wo = wr := ⟨_, rfl⟩
      go_loopw [17] (fun u17 wr => ∃ (k : Nat) (d' : List St), i ≤ k ∧ k ≤ m ∧ u17 = .int .i64 k ∧ Hid (SS.Gone m k d d') ∧ Hid (SRow wr g d') ∧ Hid (Chg (fun k => k = g) w wr)) (fun u17 _ => (intOf u17).toNat)
      case atStart => exact ⟨m, d, by omega, by omega, rfl, SS.Gone.zero _ _, HR, HC⟩
      case round =>
        clear HR HC
        obtain ⟨k, d', hk1, hk2, rfl, HG, HR, HC⟩ := hrel
        by_cases hke : i < k
        · obtain ⟨jp, rfl⟩ : ∃ jp, k = jp + 1 := ⟨k - 1, by omega⟩
          have hl' : d'.length = N := by rw [HG.out.1, HN.out]
          have HG2 : Hid (SS.Gone m jp d (SS.swp d' (jp + 1) jp)) := HG.out.down (by omega) (by have := HN.out; omega)
          have hx : jp + 1 < d'.length := by omega
          have hy : jp < d'.length := by omega
          obtain ⟨q1, q2⟩ := HR.out.2 (jp + 1) hx
          obtain ⟨q3, q4⟩ := HR.out.2 (jp) hy
          obtain ⟨x, hx'⟩ : ∃ x, d'[jp + 1] = x := ⟨_, rfl⟩
          obtain ⟨y, hy'⟩ : ∃ y, d'[jp] = y := ⟨_, rfl⟩
          rw [hx'] at q1
          rw [hy'] at q3
          have hh := HR.out.swap hx hy
          rw [hx', hy'] at hh
          obtain ⟨ox, hox⟩ : ∃ o, (jp + 1) * 3 = o := ⟨_, rfl⟩
          obtain ⟨oy, hoy⟩ : ∃ o, (jp) * 3 = o := ⟨_, rfl⟩
          have HOX := Lib.hid hox; have HOY := Lib.hid hoy
          have n0 : ¬ oy = ox := by omega
          have n1 : ¬ oy = ox + 1 := by omega
          have n2 : ¬ oy = ox + 2 := by omega
          have n3 : ¬ oy + 1 = ox := by omega
          have n4 : ¬ oy + 2 = ox := by omega
          rw [hox] at q1 q2 hh
          rw [hoy] at q3 q4 hh
          obtain ⟨sx, fx, ax, px, cx⟩ := x
          obtain ⟨sy, fy, ay, py, cy⟩ := y
          obtain ⟨wz, hwz⟩ : ∃ wz, ((((((wr.setCell ⟨g, ox, none⟩ (.int .i64 sy)).setCell ⟨g, ox + 1, none⟩ (.bool fy)).setCell ⟨g, ox + 2, none⟩ (.slice ay py cy)).setCell ⟨g, oy, none⟩ (.int .i64 sx)).setCell ⟨g, oy + 1, none⟩ (.bool fx)).setCell ⟨g, oy + 2, none⟩ (.slice ax px cx)) = wz := ⟨_, rfl⟩
          have SW : Hid (SRow wz.drew g (SS.swp d' (jp + 1) (jp)) ∧ Chg (fun k => k = g) w wz.drew) := by
            have h1 : SRow wz g (SS.swp d' (jp + 1) (jp)) := by rw [← hwz]; exact hh
            refine ⟨h1.kept rfl (Nat.le_refl _), ?_⟩
            rw [← hwz]
            exact (((((((HC.out.trans (Chg.setCell _ _ _ rfl)).trans (Chg.setCell _ _ _ rfl)).trans (Chg.setCell _ _ _ rfl)).trans (Chg.setCell _ _ _ rfl)).trans (Chg.setCell _ _ _ rfl)).trans (Chg.setCell _ _ _ rfl)).trans (Chg.drew _ _))
          have x0 : wr.cell? ⟨g, ox, none⟩ = some (.int .i64 sx) := q1 0 _ rfl
          have x1 : wr.cell? ⟨g, ox + 1, none⟩ = some (.bool fx) := q1 1 _ rfl
          have x2 : wr.cell? ⟨g, ox + 2, none⟩ = some (.slice ax px cx) := q1 2 _ rfl
          have y0 : wr.cell? ⟨g, oy, none⟩ = some (.int .i64 sy) := q3 0 _ rfl
          have y1 : wr.cell? ⟨g, oy + 1, none⟩ = some (.bool fy) := q3 1 _ rfl
          have y2 : wr.cell? ⟨g, oy + 2, none⟩ = some (.slice ay py cy) := q3 2 _ rfl
          have u0 : wr.frozen? ⟨g, ox, none⟩ = false := (q2 0 (by omega)).2
          have u1 : wr.frozen? ⟨g, ox + 1, none⟩ = false := (q2 1 (by omega)).2
          have u2 : wr.frozen? ⟨g, ox + 2, none⟩ = false := (q2 2 (by omega)).2
          have v0 : wr.frozen? ⟨g, oy, none⟩ = false := (q4 0 (by omega)).2
          have v1 : wr.frozen? ⟨g, oy + 1, none⟩ = false := (q4 1 (by omega)).2
          have v2 : wr.frozen? ⟨g, oy + 2, none⟩ = false := (q4 2 (by omega)).2
          clear hx hy hx' hy' q1 q2 q3 q4 hh HR HC
          clear hl' HG
          go_upto_region 23 with fail
          go_region
          clear n0 n1 n2 n3 n4 x0 x1 x2 y0 y1 y2 u0 u1 u2 v0 v1 v2 hox hoy hwz
          go_wp2
          go_roundw
          case rel => exact ⟨jp, _, by omega, by omega, by go_num, HG2, SW.out.1, SW.out.2⟩
          case measure => simp [intOf]
        · obtain rfl : k = i := by omega
          have hf := Lib.hid (FIN2.out _ HG.out)
          clear HG FIN2
          go_wp2
          refine bodyPost_ret (results_none rfl _ _ _) rfl ?_
          exact ⟨rfl, d', hf.out, HR.out, HC.out⟩

end Srt
end Go.Proofs.Ytkegfeghdnpajaa

/- two sorted parts become one: in general -/
namespace Go.SS
variable {α : Type} {lt : α → α → Bool}
/-- behind the turn the four parts are in order -/
theorem sym_mid {d d1 : List α} {a m b s e mid : Nat} (h1 : a ≤ s) (h2 : s ≤ m) (h3 : m ≤ e) (h4 : e ≤ b) (hb : b ≤ d.length) (hmid : mid = s + (e - m))
    (hx : Sorted lt (seg d a m)) (hy : Sorted lt (seg d m b)) (hr : Only s e d d1) (hr2 : seg d1 s e = seg d m e ++ seg d s m) :
    Sorted lt (seg d1 a s) ∧ Sorted lt (seg d1 s mid) ∧ Sorted lt (seg d1 mid e) ∧ Sorted lt (seg d1 e b) := by
  have l1 := hr.len
  have x1 := seg_append d h1 h2
  have y1 := seg_append d h3 h4
  have hmid1 : s ≤ mid := by omega
  have hmid2 : mid ≤ e := by omega
  have sp := seg_append d1 hmid1 hmid2
  have es : seg d1 s mid = seg d m e ∧ seg d1 mid e = seg d s m := by
    have hl1 : (seg d1 s mid).length = (seg d m e).length := by rw [seg_length d1 (by omega), seg_length d (by omega)]; omega
    rw [hr2] at sp
    exact List.append_inj sp hl1
  have ea : seg d1 a s = seg d a s := hr.seg_out (.inl (Nat.le_refl _)) (by omega)
  have eb : seg d1 e b = seg d e b := hr.seg_out (.inr (Nat.le_refl _)) hb
  rw [← x1] at hx
  rw [← y1] at hy
  exact ⟨by rw [ea]; exact hx.left, by rw [es.1]; exact hy.left, by rw [es.2]; exact hx.right, by rw [eb]; exact hy.right⟩
end Go.SS
namespace Go.Proofs.Ytkegfeghdnpajaa
open Go.RowKit Go.Bas
namespace Srt

def SymTo (k : Nat) : Prop := ∀ (w : World) (g cap : Nat) (d : List St) (a m b : Nat), SRow w g d → d.length ≤ 1000000 → b - a ≤ k → a < m → m < b → b ≤ d.length → SS.Sorted lt (SS.seg d a m) → SS.Sorted lt (SS.seg d m b) →
    Calls Try.prog 115 #[.slice (some ⟨g, 0, none⟩) d.length cap, .int .i64 a, .int .i64 m, .int .i64 b, .func (.func 86) #[] #[]] w fun e w' => e = .returned (.tuple #[]) ∧ ∃ d', SS.Sort1 lt a b d d' ∧ SRow w' g d' ∧ Chg (fun k => k = g) w w'

set_option maxRecDepth 100000 in
set_option maxHeartbeats 8000000 in
theorem merge3_any {k : Nat} (hih : SymTo k) {w : World} {g cap : Nat} {d : List St} (h : SRow w g d) (hl : d.length ≤ 1000000) {a m b : Nat} (hk : b - a ≤ k + 1) (h1 : a + 1 < m) (h2 : m + 1 < b) (hb : b ≤ d.length) (hx : SS.Sorted lt (SS.seg d a m)) (hy : SS.Sorted lt (SS.seg d m b)) :
    Calls Try.prog 115 #[.slice (some ⟨g, 0, none⟩) d.length cap, .int .i64 a, .int .i64 m, .int .i64 b, .func (.func 86) #[] #[]] w fun e w' => e = .returned (.tuple #[]) ∧ ∃ d', SS.Sort1 lt a b d d' ∧ SRow w' g d' ∧ Chg (fun k => k = g) w w' := by
  have hrun := callFunc_run Try.func86 (by kernel_rfl) (by kernel_rfl)
  have IH := Lib.hid hih
  obtain ⟨N, hN⟩ : ∃ N, d.length = N := ⟨_, rfl⟩
  have HN := Lib.hid hN
  rw [hN] at hl hb ⊢
  have H := Lib.hid h
  have HX := Lib.hid hx
  have HY := Lib.hid hy
  clear h hN hx hy hih
  obtain ⟨q, hq, hq1, hq2⟩ : ∃ q : Nat, ((a : Int) + (b : Int)) / 2 = (q : Int) ∧ a + b ≤ 2 * q + 1 ∧ 2 * q ≤ a + b := ⟨(a + b) / 2, by omega, by omega, by omega⟩
  obtain ⟨n, hn, hn1, hn2⟩ : ∃ n : Nat, (q : Int) + (m : Int) = (n : Int) ∧ q + m ≤ n ∧ n ≤ q + m := ⟨q + m, by omega, by omega, by omega⟩
  obtain ⟨p, hp, hp1, hp2⟩ : ∃ p : Nat, (n : Int) - 1 = (p : Int) ∧ p + 1 ≤ n ∧ n ≤ p + 1 := ⟨n - 1, by omega, by omega, by omega⟩
  have hd1 : ((m : Int) - (a : Int) == 1) = false := by simp; omega
  have hd2 : ((b : Int) - (m : Int) == 1) = false := by simp; omega
  go_enter Try.func115, Try.ntmps115
  go_upto_if 140 with fail
  clear hd1 hd2 hq
  go_cut [20, 21] from 141 to 146 (fun s20 s21 wx => ∃ (s0 r0 : Nat), s20 = .int .i64 s0 ∧ s21 = .int .i64 r0 ∧ Hid ((s0 = a ∨ n - s0 = b) ∧ (r0 = q ∨ r0 = m)) ∧ a ≤ s0 ∧ n ≤ s0 + b ∧ s0 ≤ r0 ∧ r0 ≤ q ∧ r0 ≤ m ∧ Hid (SRow wx g d) ∧ Hid (Chg (fun k => k = g) w wx))
  case first =>
    by_cases hmq : q < m
    · obtain ⟨s0, hs0, hs1, hs2⟩ : ∃ s0 : Nat, (n : Int) - (b : Int) = (s0 : Int) ∧ n ≤ s0 + b ∧ s0 + b ≤ n := ⟨n - b, by omega, by omega, by omega⟩
      go_wp2_with fail
      go_meet
      exact ⟨s0, q, rfl, rfl, ⟨.inr (by omega), .inl rfl⟩, by omega, by omega, by omega, by omega, by omega, H, Chg.refl _ _⟩
    · go_wp2_with fail
      go_meet
      exact ⟨a, m, rfl, rfl, ⟨.inl rfl, .inr rfl⟩, by omega, by omega, by omega, by omega, by omega, H, Chg.refl _ _⟩
  case rest =>
    obtain ⟨s0, r0, rfl, rfl, HSR, b1, b2, b3, b4, b5, HR0, HC0⟩ := hcut
    clear H
    go_wp2
    go_loopw [20, 21, 23] (fun u20 u21 _ wr => ∃ (s r : Nat), s0 ≤ s ∧ s ≤ r ∧ r ≤ r0 ∧ u20 = .int .i64 s ∧ u21 = .int .i64 r ∧ Hid (r = r0 ∨ ∃ x y, d[r]? = some x ∧ d[n - r - 1]? = some y ∧ lt y x = true) ∧ Hid (s = s0 ∨ ∃ x y, d[s - 1]? = some x ∧ d[n - s]? = some y ∧ lt y x = false) ∧ Hid (SRow wr g d) ∧ Hid (Chg (fun k => k = g) w wr)) (fun u20 u21 _ _ => (intOf u21).toNat - (intOf u20).toNat)
    case atStart => exact ⟨s0, r0, by omega, by omega, by omega, rfl, rfl, .inl rfl, .inl rfl, HR0, HC0⟩
    case round =>
      clear HR0 HC0
      obtain ⟨s, r, hi, hij, hjb, rfl, rfl, HLO, HHI, HR, HC⟩ := hrel
      by_cases hlt : s < r
      · obtain ⟨c, hce, hc1, hc2⟩ : ∃ c : Nat, ((s : Int) + (r : Int)) / 2 = (c : Int) ∧ s ≤ c ∧ c < r := ⟨(s + r) / 2, by omega, by omega, by omega⟩
        obtain ⟨f, hfe, hf1, hf2⟩ : ∃ f : Nat, (p : Int) - (c : Int) = (f : Int) ∧ f + c ≤ p ∧ p ≤ f + c := ⟨p - c, by omega, by omega, by omega⟩
        have hy : f < d.length := by have := HN.out; omega
        have hx : c < d.length := by have := HN.out; omega
        obtain ⟨q1, _⟩ := HR.out.2 (f) hy
        obtain ⟨q3, _⟩ := HR.out.2 (c) hx
        obtain ⟨y, hx'⟩ : ∃ x, d[f] = x := ⟨_, rfl⟩
        obtain ⟨x, hy'⟩ : ∃ y, d[c] = y := ⟨_, rfl⟩
        rw [hx'] at q1
        rw [hy'] at q3
        have Ey : Hid (d[f]? = some y) := by rw [Hid, List.getElem?_eq_getElem hy, hx']
        have Ex : Hid (d[c]? = some x) := by rw [Hid, List.getElem?_eq_getElem hx, hy']
        have c0 : ∀ e : Ext wr.heap.size wr, e.1.cell? ⟨g, (f) * 3, none⟩ = some (.int .i64 y.stamp) := fun e => rangeAt_kept q1 (e.2.block g HR.out.1) 0 _ rfl
        have c1 : ∀ e : Ext wr.heap.size wr, e.1.cell? ⟨g, (f) * 3 + 1, none⟩ = some (.bool y.flag) := fun e => rangeAt_kept q1 (e.2.block g HR.out.1) 1 _ rfl
        have c2 : ∀ e : Ext wr.heap.size wr, e.1.cell? ⟨g, (f) * 3 + 2, none⟩ = some (.slice y.pa y.pn y.pc) := fun e => rangeAt_kept q1 (e.2.block g HR.out.1) 2 _ rfl
        have c3 : ∀ e : Ext wr.heap.size wr, e.1.cell? ⟨g, (c) * 3, none⟩ = some (.int .i64 x.stamp) := fun e => rangeAt_kept q3 (e.2.block g HR.out.1) 0 _ rfl
        have c4 : ∀ e : Ext wr.heap.size wr, e.1.cell? ⟨g, (c) * 3 + 1, none⟩ = some (.bool x.flag) := fun e => rangeAt_kept q3 (e.2.block g HR.out.1) 1 _ rfl
        have c5 : ∀ e : Ext wr.heap.size wr, e.1.cell? ⟨g, (c) * 3 + 2, none⟩ = some (.slice x.pa x.pn x.pc) := fun e => rangeAt_kept q3 (e.2.block g HR.out.1) 2 _ rfl
        clear q1 q3 hx' hy'
        go_upto_region 35 with fail
        refine wp_region_mono wr.heap.size (by kernel_rfl) (by kernel_rfl) ?_
        repeat (any_goals (first
          | go_big_quiet_step ((go_at_call 86; exact Calls.ext (Nat.le_refl _) (cmp_any y x _)))))
        refine wpQuiet_nil ?_
        rintro ⟨wx, hbx⟩
        dsimp only
        have HR2 : Hid (SRow wx g d) := HR.out.below hbx HR.out.1
        have HC2 : Hid (Chg (fun k => k = g) w wx) := HC.out.trans ((Chg.of_below hbx).mono (fun k hk h => by omega))
        clear c0 c1 c2 c3 c4 c5 hbx HR HC
        clear hx hy
        by_cases hc : cv y x < 0
        · have HLO2 : Hid (c = r0 ∨ ∃ x y, d[c]? = some x ∧ d[n - c - 1]? = some y ∧ lt y x = true) := .inr ⟨x, y, Ex.out, by rw [show n - c - 1 = f by omega]; exact Ey.out, decide_eq_true hc⟩
          have hcd : (!decide (cv y x < 0)) = false := by simp [hc]
          rw [hcd]
          clear Ex Ey HLO hc
          go_wp2
          go_roundw
          case rel => exact ⟨s, c, by omega, by omega, by omega, rfl, rfl, HLO2, HHI, HR2, HC2⟩
          case measure => simp [intOf]; omega
        · have HHI2 : Hid (c + 1 = s0 ∨ ∃ x y, d[c + 1 - 1]? = some x ∧ d[n - (c + 1)]? = some y ∧ lt y x = false) := .inr ⟨x, y, Ex.out, by rw [show n - (c + 1) = f by omega]; exact Ey.out, decide_eq_false hc⟩
          have hcd : (!decide (cv y x < 0)) = true := by simp [hc]
          rw [hcd]
          clear Ex Ey HHI hc
          go_wp2
          go_roundw
          case rel => exact ⟨c + 1, r, by omega, by omega, by omega, by go_num, rfl, HLO, HHI2, HR2, HC2⟩
          case measure => simp [intOf]; omega
      · obtain rfl : s = r := by omega
        obtain ⟨e, hee, he1, he2⟩ : ∃ e : Nat, (n : Int) - (s : Int) = (e : Int) ∧ e + s ≤ n ∧ n ≤ e + s := ⟨n - s, by omega, by omega, by omega⟩
        have FD := Lib.hid (SS.found lt_swo (d := d) (a := a) (m := m) (b := b) (s := s) (e := e) (by omega) (by omega) (by omega) (by omega) (by have := HN.out; omega) HX.out HY.out
          (by
            rcases HLO.out with hh | ⟨x, y, ex, ey, exy⟩
            · rcases HSR.out.2 with h5 | h5
              · exact .inr (.inl (by omega))
              · exact .inl (by omega)
            · exact .inr (.inr ⟨x, y, ex, by rw [show e - 1 = n - s - 1 by omega]; exact ey, exy⟩))
          (by
            rcases HHI.out with hh | ⟨x, y, ex, ey, exy⟩
            · rcases HSR.out.1 with h5 | h5
              · exact .inl (by omega)
              · exact .inr (.inl (by omega))
            · exact .inr (.inr ⟨x, y, ex, by rw [show e = n - s by omega]; exact ey, exy⟩)))
        have k1 : a ≤ s := by omega
        have k2 : s ≤ m := by omega
        have k3 : m ≤ e := by omega
        have k4 : e ≤ b := by omega
        have k5 : q ≤ s + (e - m) := by omega
        have k6 : s + (e - m) ≤ q := by omega
        have k7 : a < q := by omega
        have k8 : q < b := by omega
        clear HLO HHI HSR hlt hi hjb hij b1 b2 b3 b4 b5 hp hp1 hp2 hn hn1 hn2 hq1 hq2 he1 he2
        go_upto_region 39 with fail
        clear hee
        go_cut [185] from 178 to 184 (fun s185 wx => ∃ tb : Bool, s185 = .bool tb ∧ Hid (tb = true ↔ s < m ∧ m < e) ∧ Hid (SRow wx g d) ∧ Hid (Chg (fun k => k = g) w wx))
        case first =>
          by_cases h5 : s < m
          · by_cases h6 : m < e
            · go_wp2_with fail
              go_meet
              exact ⟨true, rfl, ⟨fun _ => ⟨h5, h6⟩, fun _ => rfl⟩, HR, HC⟩
            · go_wp2_with fail
              go_meet
              exact ⟨false, rfl, ⟨nofun, fun hh => absurd hh.2 h6⟩, HR, HC⟩
          · go_wp2_with fail
            go_meet
            exact ⟨false, rfl, ⟨nofun, fun hh => absurd hh.1 h5⟩, HR, HC⟩
        case rest =>
          obtain ⟨tb, rfl, HTB, HR1, HC1⟩ := hcut
          clear HR HC
          go_upto_if 185 with fail
          go_cut [24] from 186 to 191 (fun s24 wx => ∃ d1, s24 = .int .i64 e ∧ Hid (SS.Only s e d d1) ∧ Hid (SS.seg d1 s e = SS.seg d m e ++ SS.seg d s m) ∧ Hid (SRow wx g d1) ∧ Hid (Chg (fun k => k = g) w wx))
          case first =>
            cases tb
            · go_wp2_with fail
              go_meet
              refine ⟨d, rfl, SS.Only.refl _ _ _, ?_, HR1, HC1⟩
              rcases Nat.lt_or_ge s m with h5 | h5
              · have h6 : ¬ m < e := fun h6 => by have := HTB.out.2 ⟨h5, h6⟩; cases this
                obtain rfl : m = e := by omega
                rw [SS.seg_nil (Nat.le_refl m), List.nil_append]
                rfl
              · obtain rfl : s = m := by omega
                rw [SS.seg_nil (Nat.le_refl s), List.append_nil]
                rfl
            · have h5 := HTB.out.1 rfl
              have RT := rotate_any (cap := cap) HR1.out (by rw [HN.out]; exact hl) (.func (.func 86) #[] #[]) (a := s) (m := m) (b := e) h5.1 h5.2 (by rw [HN.out]; omega)
              rw [HN.out] at RT
              go_wp2_with (first
                | (go_at_call 119; refine RT.mono ?_; rintro _ w2 ⟨rfl, d1, r1, r2, r3, r4⟩))
              go_meet
              exact ⟨d1, rfl, r1, r2, r3, HC1.out.trans r4⟩
          case rest =>
            obtain ⟨d1, rfl, HO1, HS1, HRd, HCd⟩ := hcut
            clear HR1 HC1 HTB
            have MD := Lib.hid (SS.sym_mid (mid := q) k1 k2 k3 k4 (by rw [HN.out]; exact hb) (by omega) HX.out HY.out HO1.out HS1.out)
            have L1 := Lib.hid (HO1.out.len.trans HN.out)
            go_upto_region 41 with fail
            go_cut [199] from 192 to 198 (fun s199 wx => ∃ tb : Bool, s199 = .bool tb ∧ Hid (tb = true ↔ a < s ∧ s < q) ∧ Hid (SRow wx g d1) ∧ Hid (Chg (fun k => k = g) w wx))
            case first =>
              by_cases h5 : a < s
              · by_cases h6 : s < q
                · go_wp2_with fail
                  go_meet
                  exact ⟨true, rfl, ⟨fun _ => ⟨h5, h6⟩, fun _ => rfl⟩, HRd, HCd⟩
                · go_wp2_with fail
                  go_meet
                  exact ⟨false, rfl, ⟨nofun, fun hh => absurd hh.2 h6⟩, HRd, HCd⟩
              · go_wp2_with fail
                go_meet
                exact ⟨false, rfl, ⟨nofun, fun hh => absurd hh.1 h5⟩, HRd, HCd⟩
            case rest =>
              obtain ⟨tb, rfl, HTB, HR1, HC1⟩ := hcut
              clear HRd HCd
              go_upto_if 199 with fail
              go_cut [24] from 200 to 205 (fun s24 wx => ∃ d2, s24 = .int .i64 e ∧ Hid (SS.Sort1 lt a q d1 d2) ∧ Hid (SRow wx g d2) ∧ Hid (Chg (fun k => k = g) w wx))
              case first =>
                cases tb
                · go_wp2_with fail
                  go_meet
                  refine ⟨d1, rfl, SS.Sort1.none ?_, HR1, HC1⟩
                  rcases Nat.lt_or_ge a s with h5 | h5
                  · have h6 : ¬ s < q := fun h6 => by have := HTB.out.2 ⟨h5, h6⟩; cases this
                    obtain rfl : s = q := by omega
                    exact MD.out.1
                  · obtain rfl : a = s := by omega
                    exact MD.out.2.1
                · have h5 := HTB.out.1 rfl
                  have RT := IH.out _ g cap d1 a s q HR1.out (by rw [L1.out]; exact hl) (by omega) h5.1 h5.2 (by rw [L1.out]; omega) MD.out.1 MD.out.2.1
                  rw [L1.out] at RT
                  go_wp2_with (first
                    | (go_at_call 115; refine RT.mono ?_; rintro _ w2 ⟨rfl, d2, r1, r3, r4⟩))
                  go_meet
                  exact ⟨d2, rfl, r1, r3, HC1.out.trans r4⟩
              case rest =>
                obtain ⟨d2, rfl, HS2, HRd, HCd⟩ := hcut
                clear HR1 HC1 HTB
                have L2 := Lib.hid (HS2.out.only.len.trans L1.out)
                have M1 : Hid (SS.Sorted lt (SS.seg d2 q e) ∧ SS.Sorted lt (SS.seg d2 e b)) := by
                  refine ⟨?_, ?_⟩
                  · rw [HS2.out.only.seg_out (.inr (Nat.le_refl _)) (by rw [L1.out]; omega)]; exact MD.out.2.2.1
                  · rw [HS2.out.only.seg_out (.inr (by omega)) (by rw [L1.out]; omega)]; exact MD.out.2.2.2
                have FIN : ∀ d3, SS.Sort1 lt q b d2 d3 → SS.Sort1 lt a b d d3 := fun d3 hs => SS.sym_step lt_swo (mid := q) k1 k2 k3 k4 (by rw [HN.out]; exact hb) (by omega) HX.out HY.out FD.out.1 FD.out.2 HO1.out HS1.out (fun _ _ => HS2.out) (fun _ _ => hs)
                have FIN2 := Lib.hid FIN
                clear FIN MD HO1 HS1 HS2 FD HX HY
                go_upto_region 43 with fail
                go_cut [213] from 206 to 212 (fun s213 wx => ∃ tb : Bool, s213 = .bool tb ∧ Hid (tb = true ↔ q < e ∧ e < b) ∧ Hid (SRow wx g d2) ∧ Hid (Chg (fun k => k = g) w wx))
                case first =>
                  by_cases h5 : q < e
                  · by_cases h6 : e < b
                    · go_wp2_with fail
                      go_meet
                      exact ⟨true, rfl, ⟨fun _ => ⟨h5, h6⟩, fun _ => rfl⟩, HRd, HCd⟩
                    · go_wp2_with fail
                      go_meet
                      exact ⟨false, rfl, ⟨nofun, fun hh => absurd hh.2 h6⟩, HRd, HCd⟩
                  · go_wp2_with fail
                    go_meet
                    exact ⟨false, rfl, ⟨nofun, fun hh => absurd hh.1 h5⟩, HRd, HCd⟩
                case rest =>
                  obtain ⟨tb, rfl, HTB, HR1, HC1⟩ := hcut
                  clear HRd HCd
                  cases tb
                  · go_wp2_with fail
                    go_end0
                    refine ⟨rfl, d2, FIN2.out _ (SS.Sort1.none ?_), HR1.out, HC1.out⟩
                    rcases Nat.lt_or_ge q e with h5 | h5
                    · have h6 : ¬ e < b := fun h6 => by have := HTB.out.2 ⟨h5, h6⟩; cases this
                      obtain rfl : e = b := by omega
                      exact M1.out.1
                    · obtain rfl : q = e := by omega
                      exact M1.out.2
                  · have h5 := HTB.out.1 rfl
                    have RT := IH.out _ g cap d2 q e b HR1.out (by rw [L2.out]; exact hl) (by omega) h5.1 h5.2 (by rw [L2.out]; omega) M1.out.1 M1.out.2
                    rw [L2.out] at RT
                    go_wp2_with (first
                      | (go_at_call 115; refine RT.mono ?_; rintro _ w2 ⟨rfl, d3, r1, r3, r4⟩))
                    go_end0
                    exact ⟨rfl, d3, FIN2.out _ r1, r3, HC1.out.trans r4⟩

theorem symTo (k : Nat) : SymTo k := by
  induction k with
  | zero => intro w g cap d a m b h hl hk h1 h2; omega
  | succ k ih =>
    intro w g cap d a m b h hl hk h1 h2 hb hx hy
    by_cases c1 : m = a + 1
    · subst c1
      exact merge1_any h hl h2 hb hy
    · by_cases c2 : b = m + 1
      · subst c2
        exact merge2_any h hl (by omega) hb hx
      · exact merge3_any ih h hl hk (by omega) (by omega) hb hx hy

end Srt
end Go.Proofs.Ytkegfeghdnpajaa

/- the stable sort -/
namespace Go.Proofs.Ytkegfeghdnpajaa
open Go.RowKit Go.Bas
namespace Srt

set_option maxRecDepth 100000 in
set_option maxHeartbeats 8000000 in
theorem stable_any {w : World} {g cap : Nat} {d : List St} (h : SRow w g d) (hl : d.length ≤ 1000000) :
    Calls Try.prog 105 #[.slice (some ⟨g, 0, none⟩) d.length cap, .int .i64 d.length, .func (.func 86) #[] #[]] w fun e w' => e = .returned (.tuple #[]) ∧ ∃ d', SS.Sorted lt d' ∧ SS.Same lt d d' ∧ d'.length = d.length ∧ SRow w' g d' ∧ Chg (fun k => k = g) w w' := by
  obtain ⟨N, hN⟩ : ∃ N, d.length = N := ⟨_, rfl⟩
  have HN := Lib.hid hN
  rw [hN] at hl ⊢
  have H := Lib.hid h
  clear h hN
  go_enter Try.func105, Try.ntmps105
  go_wp2
  go_loopw [7, 8] (fun u7 u8 wr => ∃ (k a : Nat) (d' : List St), Hid (a = k * 20) ∧ a ≤ N ∧ u7 = .int .i64 a ∧ u8 = .int .i64 ((a : Int) + 20) ∧ Hid (SS.Pre lt 20 k d d') ∧ Hid (SRow wr g d') ∧ Hid (Chg (fun k => k = g) w wr)) (fun u7 _ _ => N - (intOf u7).toNat)
  case atStart => exact ⟨0, 0, d, rfl, by omega, rfl, rfl, SS.Pre.zero _ _, H, Chg.refl _ _⟩
  case round =>
    clear H
    obtain ⟨k, a, d1, HA, haN, rfl, rfl, HP, HR, HC⟩ := hrel
    have L1 := Lib.hid (HP.out.1.trans HN.out)
    by_cases hab : a + 20 ≤ N
    · have RT := insertion_any (cap := cap) HR.out (by rw [L1.out]; exact hl) (a := a) (b := a + 20) (by omega) (by rw [L1.out]; omega)
      have e1 : ((a + 20 : Nat) : Int) = (a : Int) + 20 := by omega
      rw [L1.out, e1] at RT
      clear e1
      go_wp2_with (first
        | (go_at_call 114; refine RT.mono ?_; rintro _ w2 ⟨rfl, d2, r1, r3, r4⟩))
      have P2 : Hid (SS.Pre lt 20 (k + 1) d d2) := by
        refine HP.out.step (by rw [L1.out]; have := HA.out; omega) ?_
        have h1 := HA.out
        rwa [show k * 20 = a by omega, show (k + 1) * 20 = a + 20 by omega]
      have A2 : Hid (a + 20 = (k + 1) * 20) := by have := HA.out; rw [Hid]; omega
      have R3 := Lib.hid r3
      have R4 := Lib.hid (HC.out.trans r4)
      clear r1 r3 r4 RT HP HR HC HA
      go_roundw
      case rel => exact ⟨k + 1, a + 20, d2, A2, by omega, by go_num, by go_num, P2, R3, R4⟩
      case measure => simp [intOf]; omega
    · have RT := insertion_any (cap := cap) HR.out (by rw [L1.out]; exact hl) (a := a) (b := N) (by omega) (by rw [L1.out]; omega)
      rw [L1.out] at RT
      go_upto_region 7 with (first
        | (go_at_call 114; refine RT.mono ?_; rintro _ w2 ⟨rfl, d2, r1, r3, r4⟩))
      have P2 := HP.out.last (by omega) (by rw [L1.out]; have := HA.out; omega) (by rw [L1.out]; have := HA.out; omega) (by rw [L1.out, ← HA.out]; exact r1)
      have R3 := Lib.hid r3
      have R4 := Lib.hid (HC.out.trans r4)
      have P0 := Lib.hid P2.1
      have P1 := Lib.hid P2.2.1
      have P3 := Lib.hid (P2.2.2.trans HN.out)
      clear r1 r3 r4 RT HP HR HC HA P2 hab haN L1
      go_wp2
      obtain ⟨wo, rfl⟩ : ∃ wo : World, wo = wr := ⟨_, rfl⟩
      go_loopw [6, 7, 8, 9] (fun u6 _ _ _ wr => ∃ (bs : Nat) (d' : List St), 0 < bs ∧ bs ≤ 2000020 ∧ u6 = .int .i64 bs ∧ Hid (SS.SB lt bs d') ∧ Hid (SS.Same lt d d') ∧ Hid (d'.length = N) ∧ Hid (SRow wr g d') ∧ Hid (Chg (fun k => k = g) w wr)) (fun u6 _ _ _ _ => N - (intOf u6).toNat)
      case atStart => exact ⟨20, d2, by omega, by omega, rfl, P0, P1, P3, R3, R4⟩
      case round =>
        clear P0 P1 P3 R3 R4
        obtain ⟨bs, d3, hb0, hb1, rfl, HB, HS, HL, HR, HC⟩ := hrel
        by_cases hbN : bs < N
        · go_wp2
          obtain ⟨wo2, rfl⟩ : ∃ wo : World, wo = wr := ⟨_, rfl⟩
          go_loopw [7, 8] (fun u7 u8 wr => ∃ (k a : Nat) (d' : List St), Hid (a = k * (2 * bs)) ∧ a ≤ N ∧ u7 = .int .i64 a ∧ u8 = .int .i64 ((a : Int) + 2 * (bs : Int)) ∧ Hid (SS.Mid lt bs k d d') ∧ Hid (SRow wr g d') ∧ Hid (Chg (fun k => k = g) w wr)) (fun u7 _ _ => N - (intOf u7).toNat)
          case atStart => exact ⟨0, 0, d3, by rw [Hid, Nat.zero_mul], by omega, rfl, by go_num, SS.Mid.zero HB.out HS.out (HL.out.trans HN.out.symm), HR, HC⟩
          case round =>
            clear HR HC HB HS HL
            obtain ⟨k, a, d4, HA, haN, rfl, rfl, HM, HR, HC⟩ := hrel
            have L1 := Lib.hid (HM.out.1.trans HN.out)
            have hk1 : Hid ((k + 1) * (2 * bs) = a + 2 * bs) := by rw [Hid, SS.mul_next, ← HA.out]
            have HV := HM.out.halves
            rw [← HA.out, L1.out] at HV
            have HV := Lib.hid HV
            by_cases hab : a + 2 * bs ≤ N
            · have V1 := HV.out.1
              have V2 := HV.out.2
              rw [Nat.min_eq_left (by omega)] at V1 V2
              have RT := symTo _ _ g cap d4 a (a + bs) (a + bs + bs) HR.out (by rw [L1.out]; exact hl) (Nat.le_refl _) (by omega) (by omega) (by rw [L1.out]; omega) V1 V2
              have e1 : ((a + bs : Nat) : Int) = (a : Int) + bs := by omega
              have e2 : ((a + bs + bs : Nat) : Int) = (a : Int) + 2 * bs := by omega
              rw [L1.out, e1, e2] at RT
              clear e1 e2 V1 V2 HV
              go_wp2_with (first
                | (go_at_call 115; refine RT.mono ?_; rintro _ w2 ⟨rfl, d5, r1, r3, r4⟩))
              have P2 : Hid (SS.Mid lt bs (k + 1) d d5) := by
                refine HM.out.step (by rw [L1.out, hk1.out]; omega) ?_
                rw [hk1.out, ← HA.out, show a + 2 * bs = a + bs + bs by omega]
                exact r1
              have A2 : Hid (a + 2 * bs = (k + 1) * (2 * bs)) := hk1.out.symm
              have R3 := Lib.hid r3
              have R4 := Lib.hid (HC.out.trans r4)
              clear r1 r3 r4 RT HM HR HC HA hk1
              go_roundw
              case rel => exact ⟨k + 1, a + 2 * bs, d5, A2, by omega, by go_num, by go_num, P2, R3, R4⟩
              case measure => simp [intOf]; omega
            · have LA : ∀ d5, ((N ≤ a + bs ∧ d5 = d4) ∨ SS.Sort1 lt a N d4 d5) → SS.SB lt (2 * bs) d5 ∧ SS.Same lt d d5 ∧ d5.length = d.length := fun d5 hh => by
                refine HM.out.last hb0 (by rw [← HA.out, L1.out]; exact haN) (by rw [hk1.out, L1.out]; omega) ?_
                rw [← HA.out, L1.out]; exact hh
              have LA := Lib.hid LA
              by_cases hm : a + bs < N
              · have V1 := HV.out.1
                have V2 := HV.out.2
                rw [Nat.min_eq_left (by omega)] at V1
                rw [Nat.min_eq_right (by omega)] at V2
                have RT := symTo _ _ g cap d4 a (a + bs) N HR.out (by rw [L1.out]; exact hl) (Nat.le_refl _) (by omega) (by omega) (by rw [L1.out]; omega) V1 V2
                have e1 : ((a + bs : Nat) : Int) = (a : Int) + bs := by omega
                rw [L1.out, e1] at RT
                clear e1 V1 V2 HV HM HA hk1
                go_wp2_with (first
                  | (go_at_call 115; refine RT.mono ?_; rintro _ w2 ⟨rfl, d5, r1, r3, r4⟩))
                have R := LA.out _ (.inr r1)
                have R0 := Lib.hid R.1
                have R1 := Lib.hid R.2.1
                have R2 := Lib.hid (R.2.2.trans HN.out)
                have R3 := Lib.hid r3
                have R4 := Lib.hid (HC.out.trans r4)
                clear r1 r3 r4 RT R LA HR HC
                go_roundw
                case rel => exact ⟨2 * bs, d5, by omega, by omega, by go_num, R0, R1, R2, R3, R4⟩
                case measure => simp [intOf]; omega
              · have R := LA.out _ (.inl ⟨by omega, rfl⟩)
                have R0 := Lib.hid R.1
                have R1 := Lib.hid R.2.1
                have R2 := Lib.hid (R.2.2.trans HN.out)
                clear R LA HM HA hk1 HV
                go_wp2
                go_roundw
                case rel => exact ⟨2 * bs, d4, by omega, by omega, by go_num, R0, R1, R2, HR, HC⟩
                case measure => simp [intOf]; omega
        · have FIN : Hid (SS.Sorted lt d3) := HB.out.all (by rw [HL.out]; omega)
          clear HB
          go_wp2
          go_end0
          exact ⟨rfl, d3, FIN.out, HS.out, HL.out, HR.out, HC.out⟩

end Srt
end Go.Proofs.Ytkegfeghdnpajaa

/- slices.SortStableFunc of what was stored -/
namespace Go.Proofs.Ytkegfeghdnpajaa
open Go.RowKit Go.Bas
namespace Srt

set_option maxRecDepth 100000 in
set_option maxHeartbeats 4000000 in
theorem insertion_nil (w : World) :
    Calls Try.prog 114 #[.slice none 0 0, .int .i64 0, .int .i64 0, .func (.func 86) #[] #[]] w fun e w' => e = .returned (.tuple #[]) ∧ Chg (fun _ => False) w w' := by
  have C0 := Lib.hid (Chg.refl (fun _ => False) w)
  go_enter Try.func114, Try.ntmps114
  go_wp2
  go_loopw [8, 9] (fun u8 u9 wr => u8 = .int .i64 1 ∧ wr = w) (fun _ _ _ => 0)
  case atStart => exact ⟨rfl, rfl⟩
  case round =>
    obtain ⟨rfl, rfl⟩ := hrel
    go_wp2
    go_end0
    exact ⟨rfl, C0.out⟩

set_option maxRecDepth 100000 in
set_option maxHeartbeats 4000000 in
theorem stable_nil (w : World) :
    Calls Try.prog 105 #[.slice none 0 0, .int .i64 0, .func (.func 86) #[] #[]] w fun e w' => e = .returned (.tuple #[]) ∧ Chg (fun _ => False) w w' := by
  have RT := insertion_nil w
  go_enter Try.func105, Try.ntmps105
  go_wp2
  go_loopw [7, 8] (fun u7 u8 wr => u7 = .int .i64 0 ∧ u8 = .int .i64 20 ∧ wr = w) (fun _ _ _ => 0)
  case atStart => exact ⟨rfl, rfl, rfl⟩
  case round =>
    obtain ⟨rfl, rfl, rfl⟩ := hrel
    go_upto_region 7 with (first
      | (go_at_call 114; refine RT.mono ?_; rintro _ w2 ⟨rfl, r4⟩))
    have C0 := Lib.hid r4
    clear r4 RT
    go_wp2
    obtain ⟨wo, rfl⟩ : ∃ wo : World, wo = wr := ⟨_, rfl⟩
    go_loopw [6, 7, 8, 9] (fun u6 u7 u8 u9 wr => u6 = .int .i64 20 ∧ wr = w2) (fun _ _ _ _ _ => 0)
    case atStart => exact ⟨rfl, rfl⟩
    case round =>
      obtain ⟨rfl, rfl⟩ := hrel
      go_wp2
      go_end0
      exact ⟨rfl, C0.out⟩

/-- a list of what was stored, as a slice of its own -/
def SV (w : World) (v : Value) (d : List St) : Prop := (d = [] ∧ v = .slice none 0 0) ∨ ∃ g cap, v = .slice (some ⟨g, 0, none⟩) d.length cap ∧ SRow w g d

set_option maxRecDepth 100000 in
set_option maxHeartbeats 4000000 in
theorem sort_any {w : World} {v : Value} {d : List St} (h : SV w v d) (hl : d.length ≤ 1000000) :
    Calls Try.prog 85 #[v, .func (.func 86) #[] #[]] w fun e w' => e = .returned (.tuple #[]) ∧ ∃ d', SS.Sorted lt d' ∧ SS.Same lt d d' ∧ d'.length = d.length ∧ SV w' v d' ∧ Chg (fun k => v.ownBlock = some k) w w' := by
  rcases h with ⟨rfl, rfl⟩ | ⟨g, cap, rfl, h⟩
  · have RT := stable_nil w
    go_enter Try.func85, Try.ntmps85
    go_wp2_with (first
      | (go_at_call 105; refine RT.mono ?_; rintro _ w2 ⟨rfl, r4⟩))
    go_end0
    exact ⟨rfl, [], List.Pairwise.nil, SS.Same.refl _, rfl, .inl ⟨rfl, rfl⟩, r4.mono (fun _ _ hh => hh.elim)⟩
  · have RT := stable_any (cap := cap) h hl
    obtain ⟨N, hN⟩ : ∃ N, d.length = N := ⟨_, rfl⟩
    have HN := Lib.hid hN
    rw [hN] at RT hl ⊢
    clear h hN
    go_enter Try.func85, Try.ntmps85
    go_wp2_with (first
      | (go_at_call 105; refine RT.mono ?_; rintro _ w2 ⟨rfl, d2, r1, r2, r3, r4, r5⟩))
    go_end0
    exact ⟨rfl, d2, r1, r2, r3, .inr ⟨g, cap, by rw [r3], r4⟩, r5.mono (fun k _ hh => by subst hh; rfl)⟩

end Srt
end Go.Proofs.Ytkegfeghdnpajaa
