/- Lemmas of this seat's proofs, several texts laid together. -/
import Derived.Test.YthojgahcpkdemaaGreatAfA
import Derived.Test.YthojgahcpkdemaaGreatAfP
import Derived.Test.YthojgahcpkdemaaGreatAfN
import Derived.Test.YthojgahcpkdemaaGreatAfJ
set_option linter.unusedVariables false
set_option linter.unusedSimpArgs false
/- words under locks with versions, in plain: what is stored, by rising stamps -/
namespace Go.Proofs.YthojgahcpkdemaaGreat
namespace Tl
open Att (ld st inn)

abbrev M := List (Int × Int)
def at? (l : M) (a : Int) : Option Int := (l.find? fun p => p.1 == a).map (·.2)
theorem at_nil (a : Int) : at? [] a = none := rfl
theorem at_cons (p : Int × Int) (l : M) (a : Int) : at? (p :: l) a = if p.1 = a then some p.2 else at? l a := by
  unfold at?
  rw [List.find?_cons]
  by_cases h : p.1 = a
  · simp [h]
  · have : (p.1 == a) = false := by simpa using h
    rw [this, if_neg h]
theorem at_none {a : Int} : ∀ {l : M}, at? l a = none ↔ ∀ p ∈ l, p.1 ≠ a
  | [] => by simp [at_nil]
  | p :: l => by
    rw [at_cons]
    by_cases h : p.1 = a
    · simp [h]
    · rw [if_neg h, at_none]; simp [h]
theorem at_mem {a : Int} {l : M} (h : at? l a ≠ none) : ∃ p ∈ l, p.1 = a := by
  by_cases e : ∀ p ∈ l, p.1 ≠ a
  · exact absurd (at_none.2 e) h
  · simpa using e
theorem at_of {l : M} (hn : (l.map (·.1)).Nodup) {p : Int × Int} (hp : p ∈ l) : at? l p.1 = some p.2 := by
  induction l with
  | nil => cases hp
  | cons q r ih =>
    rw [List.map_cons, List.nodup_cons] at hn
    rw [at_cons]
    rcases List.mem_cons.1 hp with rfl | hp
    · rw [if_pos rfl]
    · rw [if_neg (fun e => hn.1 (by rw [e]; exact List.mem_map_of_mem hp)), ih hn.2 hp]

theorem ld_st {W : List Int} {k : Int} (x : Int) (h : inn W k = true) (a : Int) : ld (st W k x) a = if a = k then x else ld W a := by
  unfold inn at h
  have h1 : 0 ≤ k ∧ k < W.length := by simpa using h
  unfold st
  rw [show inn W k = true from h]
  simp only [if_true]
  unfold ld inn
  rw [List.length_set]
  by_cases e : a = k
  · subst e
    rw [if_pos rfl, if_pos (by simpa using h1)]
    rw [List.getD_eq_getElem?_getD, List.getElem?_set_self (by omega)]; rfl
  · rw [if_neg e]
    by_cases h2 : 0 ≤ a ∧ a < W.length
    · rw [if_pos (by simpa using h2), if_pos (by simpa using h2), List.getD_eq_getElem?_getD, List.getElem?_set_ne (by omega), List.getD_eq_getElem?_getD]
    · rw [if_neg (by simpa using h2), if_neg (by simpa using h2)]
theorem len_st (W : List Int) (k x : Int) : (st W k x).length = W.length := by
  unfold st; split <;> simp

/-- what stands at an address behind all stamps up to v -/
def mem (wr : Int → M) (μ : Int → Int) : Nat → Int → Int
  | 0, a => μ a
  | n + 1, a => (at? (wr ((n : Int) + 1)) a).getD (mem wr μ n a)
def memI (wr : Int → M) (μ : Int → Int) (v a : Int) : Int := mem wr μ v.toNat a
theorem mem_same {wr wr' : Int → M} {μ : Int → Int} {a : Int} : ∀ {n : Nat}, (∀ s, 0 < s → s ≤ (n : Int) → at? (wr s) a = at? (wr' s) a) → mem wr μ n a = mem wr' μ n a
  | 0, _ => rfl
  | n + 1, h => by
    unfold mem
    rw [h _ (by omega) (by omega), mem_same (n := n) fun s h0 h1 => h s h0 (by omega)]
theorem memI_same {wr wr' : Int → M} {μ : Int → Int} {v a : Int} (h : ∀ s, 0 < s → s ≤ v → at? (wr s) a = at? (wr' s) a) : memI wr μ v a = memI wr' μ v a :=
  mem_same fun s h0 h1 => h s h0 (by omega)
theorem mem_up {wr : Int → M} {μ : Int → Int} {a : Int} {u : Nat} : ∀ {n : Nat}, u ≤ n → (∀ s, (u : Int) < s → s ≤ (n : Int) → at? (wr s) a = none) → mem wr μ n a = mem wr μ u a
  | 0, h, _ => by obtain rfl : u = 0 := by omega
                  rfl
  | n + 1, h, hn => by
    by_cases e : u = n + 1
    · rw [e]
    · show (at? (wr ((n : Int) + 1)) a).getD (mem wr μ n a) = _
      rw [hn _ (by omega) (by omega)]
      exact mem_up (by omega) fun s h0 h1 => hn s h0 (by omega)
theorem memI_up {wr : Int → M} {μ : Int → Int} {a u v : Int} (h0 : 0 ≤ u) (h : u ≤ v) (hn : ∀ s, u < s → s ≤ v → at? (wr s) a = none) : memI wr μ v a = memI wr μ u a :=
  mem_up (by omega) fun s h1 h2 => hn s (by omega) (by omega)
theorem memI_at {wr : Int → M} {μ : Int → Int} {a s v x : Int} (h0 : 0 < s) (h : s ≤ v) (hx : at? (wr s) a = some x) (hn : ∀ u, s < u → u ≤ v → at? (wr u) a = none) : memI wr μ v a = x := by
  rw [memI_up (u := s) (by omega) h hn]
  unfold memI
  obtain ⟨n, hn2⟩ : ∃ n : Nat, s = (n : Int) + 1 := ⟨(s - 1).toNat, by omega⟩
  rw [show s.toNat = n + 1 by omega]
  unfold mem
  rw [← hn2, hx]; rfl

/-- what one does at the words: the locks it holds, with their versions; what it will store; its stamp (0: none); whether that is sure; how many are stored -/
structure Ag where
  (held ws : M) (stamp : Int) (sure : Bool) (at_ : Nat)
/-- where everything stands -/
structure Env where
  (stripes words : Int) (lk : Int → Int) (data : Int → Prop) (first : Int → Int)
structure Env.Fine (E : Env) : Prop where
  str : 1 ≤ E.stripes
  fit : 3 + E.stripes ≤ E.words
  lk : ∀ a, E.data a → 3 ≤ E.lk a ∧ E.lk a < 3 + E.stripes
  data : ∀ a, E.data a → a ≠ 1 ∧ (a < 3 ∨ 3 + E.stripes ≤ a) ∧ 0 ≤ a ∧ a < E.words
structure Sy where
  (W : List Int) (ag : Nat → Ag) (wr : Int → M)
def Sy.C (s : Sy) : Int := ld s.W 1
def Sy.mem (E : Env) (s : Sy) (v a : Int) : Int := memI s.wr E.first v a

/-- a lock that is free -/
structure Free (E : Env) (s : Sy) (k v : Int) : Prop where
  word : ld s.W k = 2 * v
  no : ∀ i, ∀ p ∈ (s.ag i).held, p.1 ≠ k
  low : 0 ≤ v
  top : v ≤ s.C
  none : ∀ a, E.data a → E.lk a = k → ∀ u, v < u → at? (s.wr u) a = none
  val : ∀ a, E.data a → E.lk a = k → ld s.W a = s.mem E s.C a
/-- a lock that i holds -/
structure Held (E : Env) (s : Sy) (k : Int) (i : Nat) (v : Int) : Prop where
  word : ld s.W k = 2 * i + 1
  has : (k, v) ∈ (s.ag i).held
  one : ∀ j, ∀ p ∈ (s.ag j).held, p.1 = k → j = i ∧ p.2 = v
  low : 0 ≤ v
  top : v ≤ s.C
  wrote : ∀ a, E.data a → E.lk a = k → (s.ag i).sure = true → at? (s.ag i).ws a ≠ none → (∀ u, v < u → u ≠ (s.ag i).stamp → at? (s.wr u) a = none) ∧ (∀ j (h : j < (s.ag i).ws.length), j < (s.ag i).at_ → (s.ag i).ws[j].1 = a → ld s.W a = (s.ag i).ws[j].2)
  else_ : ∀ a, E.data a → E.lk a = k → ¬ ((s.ag i).sure = true ∧ at? (s.ag i).ws a ≠ none) → (∀ u, v < u → at? (s.wr u) a = none) ∧ ld s.W a = s.mem E s.C a

structure Inv (E : Env) (s : Sy) : Prop where
  len : (s.W.length : Int) = E.words
  clk : 0 ≤ s.C
  wrC : ∀ u, s.wr u ≠ [] → 0 < u ∧ u ≤ s.C
  wrD : ∀ u, ∀ p ∈ s.wr u, E.data p.1
  lock : ∀ k, 3 ≤ k → k < 3 + E.stripes → (∃ v, Free E s k v) ∨ ∃ i v, Held E s k i v
  nd : ∀ i, ((s.ag i).held.map (·.1)).Nodup
  hl : ∀ i, ∀ p ∈ (s.ag i).held, 3 ≤ p.1 ∧ p.1 < 3 + E.stripes
  stC : ∀ i, 0 ≤ (s.ag i).stamp ∧ (s.ag i).stamp ≤ s.C
  stv : ∀ i, 0 < (s.ag i).stamp → ∀ p ∈ (s.ag i).held, p.2 < (s.ag i).stamp
  cover : ∀ i, 0 < (s.ag i).stamp → ((s.ag i).sure = true → (s.ag i).at_ < (s.ag i).ws.length) → ∀ q ∈ (s.ag i).ws, ∃ v, (E.lk q.1, v) ∈ (s.ag i).held
  sure : ∀ i, (s.ag i).sure = true → 0 < (s.ag i).stamp ∧ s.wr (s.ag i).stamp = (s.ag i).ws
  pend : ∀ i, 0 < (s.ag i).stamp → (s.ag i).sure = false → s.wr (s.ag i).stamp = []
  uniq : ∀ i j, 0 < (s.ag i).stamp → (s.ag i).stamp = (s.ag j).stamp → i = j
  wsD : ∀ i, 0 < (s.ag i).stamp → ∀ q ∈ (s.ag i).ws, E.data q.1
  wsN : ∀ i, 0 < (s.ag i).stamp → ((s.ag i).ws.map (·.1)).Nodup

def upd (f : Nat → Ag) (i : Nat) (x : Ag) (j : Nat) : Ag := if j = i then x else f j
theorem upd_at (f : Nat → Ag) (i : Nat) (x : Ag) : upd f i x i = x := if_pos rfl
theorem upd_ne (f : Nat → Ag) {i j : Nat} (x : Ag) (h : j ≠ i) : upd f i x j = f j := if_neg h

/-- a held lock, seen from its holder -/
theorem Inv.holds {E : Env} {s : Sy} (h : Inv E s) {i : Nat} {p : Int × Int} (hp : p ∈ (s.ag i).held) : Held E s p.1 i p.2 := by
  obtain ⟨h1, h2⟩ := h.hl i p hp
  rcases h.lock p.1 h1 h2 with ⟨v, hf⟩ | ⟨j, v, hh⟩
  · exact absurd rfl (hf.no i p hp)
  · obtain ⟨rfl, rfl⟩ := hh.one i p hp rfl
    exact hh
theorem Inv.free {E : Env} {s : Sy} (h : Inv E s) {k v : Int} (h1 : 3 ≤ k) (h2 : k < 3 + E.stripes) (hw : ld s.W k = 2 * v) : Free E s k v := by
  rcases h.lock k h1 h2 with ⟨u, hf⟩ | ⟨j, u, hh⟩
  · obtain rfl : u = v := by have := hf.word; omega
    exact hf
  · have := hh.word; omega

theorem inn_of {W : List Int} {k : Int} (h : 0 ≤ k) (h2 : k < W.length) : inn W k = true := by unfold inn; simpa using ⟨h, h2⟩

/-- a lock is held -/
theorem Inv.grab {E : Env} (F : E.Fine) {s : Sy} (h : Inv E s) {i : Nat} {k v : Int} (h1 : 3 ≤ k) (h2 : k < 3 + E.stripes) (hw : ld s.W k = 2 * v) (h0 : (s.ag i).stamp = 0) :
    Inv E ⟨st s.W k (2 * i + 1), upd s.ag i { s.ag i with held := (s.ag i).held ++ [(k, v)] }, s.wr⟩ := by
  have hk : inn s.W k = true := inn_of (by omega) (by have := h.len; have := F.fit; omega)
  have L := fun a => ld_st (2 * (i : Int) + 1) hk a
  have hC : ld (st s.W k (2 * i + 1)) 1 = s.C := by rw [L, if_neg (by omega)]; rfl
  have hD : ∀ a, E.data a → ld (st s.W k (2 * i + 1)) a = ld s.W a := fun a ha => by rw [L, if_neg (by have := F.data a ha; omega)]
  have hns : (s.ag i).sure = false := by
    cases e : (s.ag i).sure with
    | false => rfl
    | true => have := (h.sure i e).1; omega
  have hf := h.free h1 h2 hw
  refine ⟨by rw [← h.len, len_st], by show 0 ≤ ld _ 1; rw [hC]; exact h.clk, fun u hu => by show _ ∧ _ ≤ ld _ 1; rw [hC]; exact h.wrC u hu, h.wrD, fun k' h1' h2' => ?_, fun j => ?_, fun j p hp => ?_, fun j => ?_, fun j hj p hp => ?_, fun j hj hs q hq => ?_, fun j hj => ?_, fun j hj hs => ?_, fun a b ha hb => ?_, fun j hj q hq => ?_, fun j hj => ?_⟩
  · by_cases e : k' = k
    · subst e
      refine .inr ⟨i, v, ?_, ?_, fun j p hp hpk => ?_, hf.low, by show _ ≤ ld _ 1; rw [hC]; exact hf.top, fun a ha hl hs => ?_, fun a ha hl _ => ?_⟩
      · show ld (st s.W k' _) k' = _; rw [L, if_pos rfl]
      · show _ ∈ (upd _ _ _ _).held; rw [upd_at]; simp
      · by_cases e : j = i
        · subst e
          have hp' : p ∈ (s.ag j).held ++ [(k', v)] := by simpa [upd] using hp
          rcases List.mem_append.1 hp' with hp' | hp'
          · exact absurd hpk (hf.no _ p hp')
          · rw [List.mem_singleton.1 hp']; exact ⟨rfl, rfl⟩
        · have hp' : p ∈ (s.ag j).held := by simpa [upd, e] using hp
          exact absurd hpk (hf.no _ p hp')
      · have : (s.ag i).sure = true := by simpa [upd] using hs
        rw [hns] at this; cases this
      · refine ⟨hf.none a ha hl, ?_⟩
        show ld (st s.W k' _) a = memI s.wr E.first (ld (st s.W k' _) 1) a
        rw [hD a ha, hC]; exact hf.val a ha hl
    · rcases h.lock k' h1' h2' with ⟨u, hf'⟩ | ⟨j, u, hh⟩
      · refine .inl ⟨u, by show ld (st s.W k _) k' = _; rw [L, if_neg e]; exact hf'.word, fun j p hp => ?_, hf'.low, by show _ ≤ ld _ 1; rw [hC]; exact hf'.top, hf'.none, fun a ha hl => ?_⟩
        · by_cases e2 : j = i
          · subst e2
            have hp' : p ∈ (s.ag j).held ++ [(k, v)] := by simpa [upd] using hp
            rcases List.mem_append.1 hp' with hp' | hp'
            · exact hf'.no _ p hp'
            · rw [List.mem_singleton.1 hp']; exact fun e3 => e e3.symm
          · exact hf'.no j p (by simpa [upd, e2] using hp)
        · show ld (st s.W k _) a = memI s.wr E.first (ld (st s.W k _) 1) a
          rw [hD a ha, hC]; exact hf'.val a ha hl
      · refine .inr ⟨j, u, by show ld (st s.W k _) k' = _; rw [L, if_neg e]; exact hh.word, ?_, fun j2 p hp hpk => ?_, hh.low, by show _ ≤ ld _ 1; rw [hC]; exact hh.top, fun a ha hl hs hw' => ?_, fun a ha hl hn => ?_⟩
        · by_cases e2 : j = i
          · subst e2; show _ ∈ (upd _ _ _ _).held; rw [upd_at]; exact List.mem_append_left _ hh.has
          · show _ ∈ (upd _ _ _ _).held; rw [upd_ne _ _ e2]; exact hh.has
        · by_cases e2 : j2 = i
          · subst e2
            have hp' : p ∈ (s.ag j2).held ++ [(k, v)] := by simpa [upd] using hp
            rcases List.mem_append.1 hp' with hp' | hp'
            · exact hh.one _ p hp' hpk
            · rw [List.mem_singleton.1 hp'] at hpk; exact absurd hpk.symm e
          · exact hh.one j2 p (by simpa [upd, e2] using hp) hpk
        · by_cases e2 : j = i
          · subst e2
            have : (s.ag j).sure = true := by simpa [upd] using hs
            rw [hns] at this; cases this
          · simp only [upd_ne _ _ e2] at hs hw' ⊢
            refine ⟨(hh.wrote a ha hl hs hw').1, fun n hn hn2 hn3 => ?_⟩
            show ld (st s.W k _) a = _
            rw [hD a ha]; exact (hh.wrote a ha hl hs hw').2 n hn hn2 hn3
        · have hn' : ¬ ((s.ag j).sure = true ∧ at? (s.ag j).ws a ≠ none) := by
            by_cases e2 : j = i
            · subst e2; rw [hns]; simp
            · simpa [upd, e2] using hn
          refine ⟨(hh.else_ a ha hl hn').1, ?_⟩
          show ld (st s.W k _) a = memI s.wr E.first (ld (st s.W k _) 1) a
          rw [hD a ha, hC]; exact (hh.else_ a ha hl hn').2
  · by_cases e : j = i
    · subst e
      show ((upd _ _ _ _).held.map _).Nodup
      rw [upd_at]
      show (((s.ag j).held ++ [(k, v)]).map (·.1)).Nodup
      rw [List.map_append, List.nodup_append]
      refine ⟨h.nd j, by simp, fun x hx y hy => ?_⟩
      obtain ⟨p, hp, rfl⟩ := List.mem_map.1 hx
      simp at hy; subst hy
      exact hf.no j p hp
    · show ((upd _ _ _ _).held.map _).Nodup
      rw [upd_ne _ _ e]; exact h.nd j
  · by_cases e : j = i
    · subst e
      have hp' : p ∈ (s.ag j).held ++ [(k, v)] := by simpa [upd] using hp
      rcases List.mem_append.1 hp' with hp' | hp'
      · exact h.hl j p hp'
      · rw [List.mem_singleton.1 hp']; exact ⟨h1, h2⟩
    · exact h.hl j p (by simpa [upd, e] using hp)
  all_goals (try (show _ ∧ _ ≤ ld _ 1; rw [hC]))
  · by_cases e : j = i
    · subst e; simpa [upd] using h.stC j
    · simpa [upd, e] using h.stC j
  · by_cases e : j = i
    · subst e; simp [upd, h0] at hj
    · simp only [upd_ne _ _ e] at hj hp ⊢; exact h.stv j hj p hp
  · by_cases e : j = i
    · subst e; simp [upd, h0] at hj
    · simp only [upd_ne _ _ e] at hj hs hq ⊢; exact h.cover j hj hs q hq
  · by_cases e : j = i
    · subst e; simp [upd, hns] at hj
    · simp only [upd_ne _ _ e] at hj ⊢; exact h.sure j hj
  · by_cases e : j = i
    · subst e; simp [upd, h0] at hj
    · simp only [upd_ne _ _ e] at hj hs ⊢; exact h.pend j hj hs
  · have k1 : ∀ c, (upd s.ag i { s.ag i with held := (s.ag i).held ++ [(k, v)] } c).stamp = (s.ag c).stamp := fun c => by
      by_cases e : c = i
      · subst e; rw [upd_at]
      · rw [upd_ne _ _ e]
    simp only [k1] at ha hb
    exact h.uniq a b ha hb
  · by_cases e : j = i
    · subst e; simp [upd, h0] at hj
    · simp only [upd_ne _ _ e] at hj hq ⊢; exact h.wsD j hj q hq
  · by_cases e : j = i
    · subst e; simp [upd, h0] at hj
    · simp only [upd_ne _ _ e] at hj ⊢; exact h.wsN j hj

end Tl
end Go.Proofs.YthojgahcpkdemaaGreat

/- words under locks with versions, in plain: the other steps -/
namespace Go.Proofs.YthojgahcpkdemaaGreat
namespace Tl
open Att (ld st inn)

theorem Inv.c1 {E : Env} (F : E.Fine) {s : Sy} (h : Inv E s) : inn s.W 1 = true := inn_of (by omega) (by have := h.len; have := F.fit; have := F.str; omega)
theorem Inv.top_none {E : Env} {s : Sy} (h : Inv E s) {u : Int} (hu : s.C < u) : s.wr u = [] := by
  cases e : s.wr u with
  | nil => rfl
  | cons p r => have := (h.wrC u (by rw [e]; simp)).2; omega

/-- the clock goes on: i has a stamp -/
theorem Inv.bump {E : Env} (F : E.Fine) {s : Sy} (h : Inv E s) {i : Nat} (h0 : (s.ag i).stamp = 0) {ws : M}
    (hc : ∀ q ∈ ws, ∃ v, (E.lk q.1, v) ∈ (s.ag i).held) (hD : ∀ q ∈ ws, E.data q.1) (hN : (ws.map (·.1)).Nodup) :
    Inv E ⟨st s.W 1 (s.C + 1), upd s.ag i ⟨(s.ag i).held, ws, s.C + 1, false, 0⟩, s.wr⟩ := by
  have L := fun a => ld_st (s.C + 1) (h.c1 F) a
  have hC : ld (st s.W 1 (s.C + 1)) 1 = s.C + 1 := by rw [L, if_pos rfl]
  have hD' : ∀ a, E.data a → ld (st s.W 1 (s.C + 1)) a = ld s.W a := fun a ha => by rw [L, if_neg (F.data a ha).1]
  have hm : ∀ a, memI s.wr E.first (s.C + 1) a = memI s.wr E.first s.C a := fun a => memI_up h.clk (by omega) fun u h1 h2 => by rw [h.top_none h1]; rfl
  have hns : (s.ag i).sure = false := by
    cases e : (s.ag i).sure with
    | false => rfl
    | true => have := (h.sure i e).1; omega
  have hh : ∀ j, (upd s.ag i ⟨(s.ag i).held, ws, s.C + 1, false, 0⟩ j).held = (s.ag j).held := fun j => by
    by_cases e : j = i
    · subst e; rw [upd_at]
    · rw [upd_ne _ _ e]
  have hk := h.clk
  refine ⟨by rw [← h.len, len_st], by show 0 ≤ ld _ 1; rw [hC]; omega, fun u hu => by show _ ∧ _ ≤ ld _ 1; rw [hC]; have := h.wrC u hu; omega, h.wrD, fun k h1 h2 => ?_, fun j => ?_, fun j p hp => ?_, fun j => ?_, fun j hj p hp => ?_, fun j hj hs q hq => ?_, fun j hj => ?_, fun j hj hs => ?_, fun a b ha hb => ?_, fun j hj q hq => ?_, fun j hj => ?_⟩
  · rcases h.lock k h1 h2 with ⟨v, hf⟩ | ⟨j, v, hf⟩
    · refine .inl ⟨v, by show ld (st s.W 1 _) k = _; rw [L, if_neg (by omega)]; exact hf.word, fun j p hp => ?_, hf.low, by show _ ≤ ld _ 1; rw [hC]; have := hf.top; omega, hf.none, fun a ha hl => ?_⟩
      · rw [show ({ W := st s.W 1 (s.C + 1), ag := upd s.ag i ⟨(s.ag i).held, ws, s.C + 1, false, 0⟩, wr := s.wr } : Sy).ag j = upd s.ag i ⟨(s.ag i).held, ws, s.C + 1, false, 0⟩ j from rfl, hh j] at hp
        exact hf.no j p hp
      · show ld (st s.W 1 _) a = memI s.wr E.first (ld (st s.W 1 _) 1) a
        rw [hD' a ha, hC, hm]; exact hf.val a ha hl
    · refine .inr ⟨j, v, by show ld (st s.W 1 _) k = _; rw [L, if_neg (by omega)]; exact hf.word, by show _ ∈ (upd _ _ _ _).held; rw [hh j]; exact hf.has, fun j2 p hp hpk => ?_, hf.low, by show _ ≤ ld _ 1; rw [hC]; have := hf.top; omega, fun a ha hl hs hw => ?_, fun a ha hl hn => ?_⟩
      · have hp : p ∈ (upd s.ag i ⟨(s.ag i).held, ws, s.C + 1, false, 0⟩ j2).held := hp
        rw [hh j2] at hp
        exact hf.one j2 p hp hpk
      · by_cases e2 : j = i
        · subst e2; simp [upd] at hs
        · simp only [upd_ne _ _ e2] at hs hw ⊢
          refine ⟨(hf.wrote a ha hl hs hw).1, fun n hn hn2 hn3 => ?_⟩
          show ld (st s.W 1 _) a = _
          rw [hD' a ha]; exact (hf.wrote a ha hl hs hw).2 n hn hn2 hn3
      · have hn' : ¬ ((s.ag j).sure = true ∧ at? (s.ag j).ws a ≠ none) := by
          by_cases e2 : j = i
          · subst e2; rw [hns]; simp
          · simpa [upd, e2] using hn
        refine ⟨(hf.else_ a ha hl hn').1, ?_⟩
        show ld (st s.W 1 _) a = memI s.wr E.first (ld (st s.W 1 _) 1) a
        rw [hD' a ha, hC, hm]; exact (hf.else_ a ha hl hn').2
  · show ((upd _ _ _ _).held.map _).Nodup; rw [hh]; exact h.nd j
  · have hp : p ∈ (upd s.ag i ⟨(s.ag i).held, ws, s.C + 1, false, 0⟩ j).held := hp
    rw [hh] at hp; exact h.hl j p hp
  · show _ ∧ _ ≤ ld _ 1
    rw [hC]
    by_cases e : j = i
    · subst e; simp [upd]; omega
    · have := h.stC j; simp [upd, e]; omega
  · have hp2 : p ∈ (upd s.ag i ⟨(s.ag i).held, ws, s.C + 1, false, 0⟩ j).held := hp
    rw [hh] at hp2
    clear hp
    by_cases e : j = i
    · subst e; show _ < (upd _ _ _ _).stamp; rw [upd_at]; have := (h.holds hp2).top; show p.2 < s.C + 1; omega
    · simp only [upd_ne _ _ e] at hj ⊢; exact h.stv j hj p hp2
  · by_cases e : j = i
    · subst e
      have hq : q ∈ ws := by simpa [upd] using hq
      show ∃ v, _ ∈ (upd _ _ _ _).held; rw [upd_at]; exact hc q hq
    · simp only [upd_ne _ _ e] at hj hs hq ⊢; exact h.cover j hj hs q hq
  · by_cases e : j = i
    · subst e; simp [upd] at hj
    · simp only [upd_ne _ _ e] at hj ⊢; exact h.sure j hj
  · by_cases e : j = i
    · subst e; show s.wr (upd _ _ _ _).stamp = []; rw [upd_at]; exact h.top_none (by show s.C < s.C + 1; omega)
    · simp only [upd_ne _ _ e] at hj hs ⊢; exact h.pend j hj hs
  · have ha' : 0 < (upd s.ag i ⟨(s.ag i).held, ws, s.C + 1, false, 0⟩ a).stamp := ha
    have hb' : (upd s.ag i ⟨(s.ag i).held, ws, s.C + 1, false, 0⟩ a).stamp = (upd s.ag i ⟨(s.ag i).held, ws, s.C + 1, false, 0⟩ b).stamp := hb
    have h1 := (h.stC a).2; have h2 := (h.stC b).2
    by_cases e1 : a = i
    · by_cases e2 : b = i
      · rw [e1, e2]
      · rw [e1, upd_at, upd_ne _ _ e2] at hb'; simp only at hb'; omega
    · by_cases e2 : b = i
      · rw [e2, upd_at, upd_ne _ _ e1] at hb'; simp only at hb'; omega
      · rw [upd_ne _ _ e1] at ha'; rw [upd_ne _ _ e1, upd_ne _ _ e2] at hb'; exact h.uniq a b ha' hb'
  · by_cases e : j = i
    · subst e
      have hq : q ∈ ws := by simpa [upd] using hq
      exact hD q hq
    · simp only [upd_ne _ _ e] at hj hq ⊢; exact h.wsD j hj q hq
  · by_cases e : j = i
    · subst e; show ((upd _ _ _ _).ws.map _).Nodup; rw [upd_at]; exact hN
    · simp only [upd_ne _ _ e] at hj ⊢; exact h.wsN j hj

/-- what i will store is sure -/
def Sy.commit (s : Sy) (i : Nat) : Sy := ⟨s.W, upd s.ag i ⟨(s.ag i).held, (s.ag i).ws, (s.ag i).stamp, true, 0⟩, fun u => if u = (s.ag i).stamp then (s.ag i).ws else s.wr u⟩
theorem Sy.commit_wr (s : Sy) (i : Nat) (u : Int) : (s.commit i).wr u = if u = (s.ag i).stamp then (s.ag i).ws else s.wr u := rfl
theorem Sy.commit_none (s : Sy) {i : Nat} {a : Int} (ha : at? (s.ag i).ws a = none) (h2 : s.wr (s.ag i).stamp = []) (u : Int) : at? ((s.commit i).wr u) a = at? (s.wr u) a := by
  rw [s.commit_wr]
  split
  · rename_i e; rw [e, h2, ha]; rfl
  · rfl
theorem Inv.commit {E : Env} {s : Sy} (h : Inv E s) {i : Nat} (h0 : 0 < (s.ag i).stamp) (hs0 : (s.ag i).sure = false) : Inv E (s.commit i) := by
  have h2 := h.pend i h0 hs0
  have hC : (s.commit i).C = s.C := rfl
  have hm : ∀ v a, at? (s.ag i).ws a = none → (s.commit i).mem E v a = s.mem E v a := fun v a ha => memI_same fun u _ _ => s.commit_none ha h2 u
  have hh : ∀ j, ((s.commit i).ag j).held = (s.ag j).held := fun j => by
    show (upd _ _ _ _).held = _
    by_cases e : j = i
    · subst e; rw [upd_at]
    · rw [upd_ne _ _ e]
  have ht : ∀ j, ((s.commit i).ag j).stamp = (s.ag j).stamp := fun j => by
    show (upd _ _ _ _).stamp = _
    by_cases e : j = i
    · subst e; rw [upd_at]
    · rw [upd_ne _ _ e]
  have hw : ∀ j, ((s.commit i).ag j).ws = (s.ag j).ws := fun j => by
    show (upd _ _ _ _).ws = _
    by_cases e : j = i
    · subst e; rw [upd_at]
    · rw [upd_ne _ _ e]
  have own : ∀ a, at? (s.ag i).ws a ≠ none → ∃ v, (E.lk a, v) ∈ (s.ag i).held := fun a ha => by
    obtain ⟨q, hq, rfl⟩ := at_mem ha
    exact h.cover i h0 (fun e => by rw [hs0] at e; cases e) q hq
  refine ⟨h.len, h.clk, fun u hu => ?_, fun u p hp => ?_, fun k h1 h2' => ?_, fun j => by rw [hh]; exact h.nd j, fun j p hp => h.hl j p (by rw [hh] at hp; exact hp), fun j => by rw [ht]; exact h.stC j, fun j hj p hp => ?_, fun j hj hs q hq => ?_, fun j hj => ?_, fun j hj hs => ?_, fun a b ha hb => ?_, fun j hj q hq => ?_, fun j hj => ?_⟩
  · rw [s.commit_wr] at hu
    split at hu
    · rename_i e; rw [e]; exact ⟨h0, (h.stC i).2⟩
    · exact h.wrC u hu
  · rw [s.commit_wr] at hp
    split at hp
    · exact h.wsD i h0 p hp
    · exact h.wrD u p hp
  · rcases h.lock k h1 h2' with ⟨v, hf⟩ | ⟨j, v, hf⟩
    · have nn : ∀ a, E.data a → E.lk a = k → at? (s.ag i).ws a = none := fun a ha hl => by
        cases e : at? (s.ag i).ws a with
        | none => rfl
        | some x =>
          obtain ⟨u, hu⟩ := own a (by rw [e]; simp)
          exact absurd hl (hf.no i _ hu)
      refine .inl ⟨v, hf.word, fun j p hp => hf.no j p (by rw [hh] at hp; exact hp), hf.low, hf.top, fun a ha hl u hu => ?_, fun a ha hl => ?_⟩
      · rw [s.commit_none (nn a ha hl) h2]; exact hf.none a ha hl u hu
      · rw [hC, hm _ _ (nn a ha hl)]; exact hf.val a ha hl
    · refine .inr ⟨j, v, hf.word, by rw [hh]; exact hf.has, fun j2 p hp hpk => hf.one j2 p (by rw [hh] at hp; exact hp) hpk, hf.low, hf.top, fun a ha hl hs hw' => ?_, fun a ha hl hn => ?_⟩
      · rw [hw] at hw'
        by_cases e : j = i
        · subst e
          have o := hf.else_ a ha hl (by rw [hs0]; simp)
          refine ⟨fun u hu hne => ?_, fun n hn hn2 _ => ?_⟩
          · rw [ht] at hne; rw [s.commit_wr, if_neg hne]; exact o.1 u hu
          · have hn2 : n < (upd s.ag j ⟨(s.ag j).held, (s.ag j).ws, (s.ag j).stamp, true, 0⟩ j).at_ := hn2
            rw [upd_at] at hn2; exact absurd hn2 (by simp)
        · have hs' : (s.ag j).sure = true := by have : (upd _ _ _ j).sure = true := hs; rwa [upd_ne _ _ e] at this
          have nn : at? (s.ag i).ws a = none := by
            cases e3 : at? (s.ag i).ws a with
            | none => rfl
            | some x =>
              obtain ⟨u, hu⟩ := own a (by rw [e3]; simp)
              exact absurd (hf.one i _ hu hl).1.symm e
          have o := hf.wrote a ha hl hs' hw'
          refine ⟨fun u hu hne => ?_, ?_⟩
          · rw [ht] at hne; rw [s.commit_none nn h2]; exact o.1 u hu hne
          · have e4 : (s.commit i).ag j = s.ag j := upd_ne _ _ e
            rw [e4]; exact o.2
      · have hn' : ¬ ((s.ag j).sure = true ∧ at? (s.ag j).ws a ≠ none) := by
          by_cases e2 : j = i
          · subst e2; rw [hs0]; simp
          · have e4 : (s.commit i).ag j = s.ag j := upd_ne _ _ e2
            rw [e4] at hn; exact hn
        have nn : at? (s.ag i).ws a = none := by
          cases e3 : at? (s.ag i).ws a with
          | none => rfl
          | some x =>
            obtain ⟨u, hu⟩ := own a (by rw [e3]; simp)
            have e5 := (hf.one i _ hu hl).1
            subst e5
            exact absurd ⟨by show (upd _ _ _ _).sure = true; rw [upd_at], by rw [hw, e3]; simp⟩ hn
        have o := hf.else_ a ha hl hn'
        exact ⟨fun u hu => by rw [s.commit_none nn h2]; exact o.1 u hu, by rw [hC, hm _ _ nn]; exact o.2⟩
  · rw [hh] at hp; rw [ht] at hj ⊢; exact h.stv j hj p hp
  · rw [ht] at hj; rw [hw] at hq; rw [hh]
    by_cases e : j = i
    · subst e; exact h.cover j hj (fun e => by rw [hs0] at e; cases e) q hq
    · have e4 : (s.commit i).ag j = s.ag j := upd_ne _ _ e
      rw [e4] at hs; exact h.cover j hj hs q hq
  · rw [ht, hw, s.commit_wr]
    by_cases e : j = i
    · subst e; rw [if_pos rfl]; exact ⟨h0, rfl⟩
    · have e4 : (s.commit i).ag j = s.ag j := upd_ne _ _ e
      rw [e4] at hj
      have o := h.sure j hj
      rw [if_neg (fun e5 => e (h.uniq j i o.1 e5))]; exact o
  · rw [ht] at hj ⊢
    by_cases e : j = i
    · subst e; have hs : (upd _ _ _ _).sure = false := hs; rw [upd_at] at hs; cases hs
    · have e4 : (s.commit i).ag j = s.ag j := upd_ne _ _ e
      rw [e4] at hs
      rw [s.commit_wr, if_neg (fun e5 => e (h.uniq j i hj e5))]; exact h.pend j hj hs
  · rw [ht] at ha hb; rw [ht] at hb; exact h.uniq a b ha hb
  · rw [ht] at hj; rw [hw] at hq; exact h.wsD j hj q hq
  · rw [ht] at hj; rw [hw]; exact h.wsN j hj

/-- i stores a word -/
def Sy.store (s : Sy) (i : Nat) (q : Int × Int) : Sy := ⟨st s.W q.1 q.2, upd s.ag i { s.ag i with at_ := (s.ag i).at_ + 1 }, s.wr⟩
theorem Inv.store {E : Env} (F : E.Fine) {s : Sy} (h : Inv E s) {i : Nat} (hs0 : (s.ag i).sure = true) {q : Int × Int} (hat : (s.ag i).at_ < (s.ag i).ws.length) (hq : (s.ag i).ws[(s.ag i).at_]? = some q) : Inv E (s.store i q) := by
  obtain ⟨h0, hwr⟩ := h.sure i hs0
  have hqm : q ∈ (s.ag i).ws := List.mem_of_getElem? hq
  have hqD := h.wsD i h0 q hqm
  obtain ⟨d1, d2, d3, d4⟩ := F.data _ hqD
  have hk : inn s.W q.1 = true := inn_of d3 (by have := h.len; omega)
  have L := fun a => ld_st q.2 hk a
  obtain ⟨vq, hvq⟩ := h.cover i h0 (fun _ => hat) q hqm
  have hC : (s.store i q).C = s.C := by show ld (st _ _ _) 1 = _; rw [L, if_neg (fun e => d1 e.symm)]; rfl
  have hlk : ∀ k, 3 ≤ k → k < 3 + E.stripes → ld (st s.W q.1 q.2) k = ld s.W k := fun k h1 h2 => by rw [L, if_neg (by omega)]
  have hh : ∀ j, ((s.store i q).ag j).held = (s.ag j).held := fun j => by
    show (upd _ _ _ _).held = _
    by_cases e : j = i
    · subst e; rw [upd_at]
    · rw [upd_ne _ _ e]
  have ht : ∀ j, ((s.store i q).ag j).stamp = (s.ag j).stamp := fun j => by
    show (upd _ _ _ _).stamp = _
    by_cases e : j = i
    · subst e; rw [upd_at]
    · rw [upd_ne _ _ e]
  have hw : ∀ j, ((s.store i q).ag j).ws = (s.ag j).ws := fun j => by
    show (upd _ _ _ _).ws = _
    by_cases e : j = i
    · subst e; rw [upd_at]
    · rw [upd_ne _ _ e]
  have hu : ∀ j, ((s.store i q).ag j).sure = (s.ag j).sure := fun j => by
    show (upd _ _ _ _).sure = _
    by_cases e : j = i
    · subst e; rw [upd_at]
    · rw [upd_ne _ _ e]
  have hm : ∀ v a, (s.store i q).mem E v a = s.mem E v a := fun _ _ => rfl
  refine ⟨by show ((st _ _ _).length : Int) = _; rw [len_st]; exact h.len, by rw [hC]; exact h.clk, fun u hu => by rw [hC]; exact h.wrC u hu, h.wrD, fun k h1 h2' => ?_, fun j => by rw [hh]; exact h.nd j, fun j p hp => h.hl j p (by rw [hh] at hp; exact hp), fun j => by rw [ht, hC]; exact h.stC j, fun j hj p hp => ?_, fun j hj hs x hx => ?_, fun j hj => ?_, fun j hj hs => ?_, fun a b ha hb => ?_, fun j hj x hx => ?_, fun j hj => ?_⟩
  · rcases h.lock k h1 h2' with ⟨v, hf⟩ | ⟨j, v, hf⟩
    · refine .inl ⟨v, by show ld (st _ _ _) k = _; rw [hlk k h1 h2']; exact hf.word, fun j p hp => hf.no j p (by rw [hh] at hp; exact hp), hf.low, by rw [hC]; exact hf.top, hf.none, fun a ha hl => ?_⟩
      show ld (st _ _ _) a = _
      rw [L, if_neg (fun e => hf.no i _ hvq (by rw [← e]; exact hl)), hC, hm]; exact hf.val a ha hl
    · refine .inr ⟨j, v, by show ld (st _ _ _) k = _; rw [hlk k h1 h2']; exact hf.word, by rw [hh]; exact hf.has, fun j2 p hp hpk => hf.one j2 p (by rw [hh] at hp; exact hp) hpk, hf.low, by rw [hC]; exact hf.top, fun a ha hl hs hw' => ?_, fun a ha hl hn => ?_⟩
      · rw [hw] at hw'; rw [hu] at hs
        have o := hf.wrote a ha hl hs hw'
        rw [ht]
        refine ⟨o.1, ?_⟩
        by_cases e : j = i
        · subst e
          have e4 : (s.store j q).ag j = { s.ag j with at_ := (s.ag j).at_ + 1 } := upd_at _ _ _
          rw [e4]
          intro n hn hn2 hn3
          show ld (st _ _ _) a = _
          rw [L]
          by_cases e5 : n = (s.ag j).at_
          · subst e5
            have e6 : (s.ag j).ws[(s.ag j).at_] = q := by rw [List.getElem?_eq_getElem hn] at hq; exact Option.some.inj hq
            have e7 : (s.ag j).ws[(s.ag j).at_].1 = a := hn3
            show _ = (s.ag j).ws[(s.ag j).at_].2
            rw [e6] at e7 ⊢
            rw [if_pos e7.symm]
          · have hlt : n < (s.ag j).at_ := by
              have : n < (s.ag j).at_ + 1 := hn2
              omega
            by_cases e6 : a = q.1
            · exfalso
              have nd := h.wsN j h0
              have e8 : (s.ag j).ws[(s.ag j).at_] = q := by rw [List.getElem?_eq_getElem hat] at hq; exact Option.some.inj hq
              have e7 : (s.ag j).ws[n].1 = a := hn3
              have hn' : n < (s.ag j).ws.length := hn
              have := (List.nodup_iff_pairwise_ne.1 nd |> List.pairwise_iff_getElem.1) n (s.ag j).at_ (by simpa using hn') (by simpa using hat) hlt
              simp only [List.getElem_map] at this
              exact this (by rw [e8, ← e6]; exact e7)
            · rw [if_neg e6]; exact o.2 n hn hlt hn3
        · have e4 : (s.store i q).ag j = s.ag j := upd_ne _ _ e
          rw [e4]
          intro n hn hn2 hn3
          show ld (st _ _ _) a = _
          rw [L, if_neg (fun e5 => e (hf.one i _ hvq (by rw [← e5]; exact hl)).1.symm)]
          exact o.2 n hn hn2 hn3
      · rw [hw, hu] at hn
        have o := hf.else_ a ha hl hn
        refine ⟨o.1, ?_⟩
        show ld (st _ _ _) a = _
        rw [L, if_neg, hC, hm]
        · exact o.2
        · intro e5
          have e6 := (hf.one i _ hvq (by rw [← e5]; exact hl)).1
          subst e6
          refine hn ⟨hs0, ?_⟩
          rw [e5, at_of (h.wsN i h0) hqm]; simp
  · rw [hh] at hp; rw [ht] at hj ⊢; exact h.stv j hj p hp
  · rw [ht] at hj; rw [hw] at hx; rw [hh]
    by_cases e : j = i
    · subst e
      exact h.cover j hj (fun _ => hat) x hx
    · have e4 : (s.store i q).ag j = s.ag j := upd_ne _ _ e
      rw [e4] at hs; exact h.cover j hj hs x hx
  · rw [hu] at hj; rw [ht, hw]; exact h.sure j hj
  · rw [ht] at hj ⊢; rw [hu] at hs; exact h.pend j hj hs
  · rw [ht] at ha hb; rw [ht] at hb; exact h.uniq a b ha hb
  · rw [ht] at hj; rw [hw] at hx; exact h.wsD j hj x hx
  · rw [ht] at hj; rw [hw]; exact h.wsN j hj

end Tl
end Go.Proofs.YthojgahcpkdemaaGreat

/- words under locks with versions, in plain: locks are let go; all steps together -/
namespace Go.Proofs.YthojgahcpkdemaaGreat
namespace Tl
open Att (ld st inn)

def vers (x : Ag) (v : Int) : Int := if x.sure then x.stamp else v
/-- i lets its first lock go -/
def Sy.release (s : Sy) (i : Nat) (k v : Int) (rest : M) : Sy := ⟨st s.W k (2 * vers (s.ag i) v), upd s.ag i { s.ag i with held := rest }, s.wr⟩
theorem Inv.release {E : Env} (F : E.Fine) {s : Sy} (h : Inv E s) {i : Nat} {k v : Int} {rest : M} (hh : (s.ag i).held = (k, v) :: rest)
    (h1 : (s.ag i).sure = true → (s.ag i).ws.length ≤ (s.ag i).at_) (h2 : (s.ag i).sure = false → (s.ag i).stamp = 0) : Inv E (s.release i k v rest) := by
  have hmem : (k, v) ∈ (s.ag i).held := by rw [hh]; simp
  obtain ⟨k1, k2⟩ := h.hl i _ hmem
  have H := h.holds hmem
  have hk : inn s.W k = true := inn_of (by simp only at k1; omega) (by have := h.len; have := F.fit; simp only at k2; omega)
  have L := fun a => ld_st (2 * vers (s.ag i) v) hk a
  have hC : (s.release i k v rest).C = s.C := by show ld (st _ _ _) 1 = _; rw [L, if_neg (by simp only at k1; omega)]; rfl
  have hD : ∀ a, E.data a → ld (st s.W k (2 * vers (s.ag i) v)) a = ld s.W a := fun a ha => by rw [L, if_neg (by have := F.data a ha; simp only at k1 k2; omega)]
  have nd := h.nd i
  rw [hh, List.map_cons, List.nodup_cons] at nd
  have hsub : ∀ p ∈ rest, p ∈ (s.ag i).held := fun p hp => by rw [hh]; exact List.mem_cons_of_mem _ hp
  have ag1 : (s.release i k v rest).ag i = { s.ag i with held := rest } := upd_at _ _ _
  have ag2 : ∀ {j}, j ≠ i → (s.release i k v rest).ag j = s.ag j := fun e => upd_ne _ _ e
  have hm : ∀ u a, (s.release i k v rest).mem E u a = s.mem E u a := fun _ _ => rfl
  have heldj : ∀ j p, p ∈ ((s.release i k v rest).ag j).held → p ∈ (s.ag j).held := fun j p hp => by
    by_cases e : j = i
    · subst e; rw [ag1] at hp; exact hsub p hp
    · rw [ag2 e] at hp; exact hp
  have stj : ∀ j, ((s.release i k v rest).ag j).stamp = (s.ag j).stamp := fun j => by
    by_cases e : j = i
    · subst e; rw [ag1]
    · rw [ag2 e]
  have wsj : ∀ j, ((s.release i k v rest).ag j).ws = (s.ag j).ws := fun j => by
    by_cases e : j = i
    · subst e; rw [ag1]
    · rw [ag2 e]
  have suj : ∀ j, ((s.release i k v rest).ag j).sure = (s.ag j).sure := fun j => by
    by_cases e : j = i
    · subst e; rw [ag1]
    · rw [ag2 e]
  have atj : ∀ j, ((s.release i k v rest).ag j).at_ = (s.ag j).at_ := fun j => by
    by_cases e : j = i
    · subst e; rw [ag1]
    · rw [ag2 e]
  refine ⟨by show ((st _ _ _).length : Int) = _; rw [len_st]; exact h.len, by rw [hC]; exact h.clk, fun u hu => by rw [hC]; exact h.wrC u hu, h.wrD, fun k' h1' h2' => ?_, fun j => ?_, fun j p hp => h.hl j p (heldj j p hp), fun j => by rw [stj, hC]; exact h.stC j, fun j hj p hp => ?_, fun j hj hs q hq => ?_, fun j hj => ?_, fun j hj hs => ?_, fun a b ha hb => ?_, fun j hj q hq => ?_, fun j hj => ?_⟩
  · by_cases e : k' = k
    · subst e
      refine .inl ⟨vers (s.ag i) v, by show ld (st _ _ _) k' = _; rw [L, if_pos rfl], fun j p hp hpk => ?_, ?_, ?_, fun a ha hl u hu => ?_, fun a ha hl => ?_⟩
      · obtain ⟨e1, _⟩ := H.one j p (heldj j p hp) hpk
        subst e1
        rw [ag1] at hp
        exact nd.1 (List.mem_map.2 ⟨p, hp, hpk⟩)
      · unfold vers; split
        · exact (h.stC i).1
        · exact H.low
      · rw [hC]; unfold vers; split
        · exact (h.stC i).2
        · exact H.top
      · show at? (s.wr u) a = none
        cases es : (s.ag i).sure with
        | false =>
          have : vers (s.ag i) v = v := by unfold vers; rw [es]; rfl
          exact (H.else_ a ha hl (by rw [es]; simp)).1 u (by rw [this] at hu; exact hu)
        | true =>
          have hv : vers (s.ag i) v = (s.ag i).stamp := by unfold vers; rw [es]; rfl
          rw [hv] at hu
          have := h.stv i (h.sure i es).1 _ hmem
          by_cases hd : at? (s.ag i).ws a = none
          · exact (H.else_ a ha hl (fun e => e.2 hd)).1 u (by simp only at this ⊢; omega)
          · exact (H.wrote a ha hl es hd).1 u (by simp only at this ⊢; omega) (by omega)
      · show ld (st _ _ _) a = _
        rw [hD a ha, hC, hm]
        cases es : (s.ag i).sure with
        | false => exact (H.else_ a ha hl (by rw [es]; simp)).2
        | true =>
          by_cases hd : at? (s.ag i).ws a = none
          · exact (H.else_ a ha hl (fun e => e.2 hd)).2
          · obtain ⟨o1, o2⟩ := H.wrote a ha hl es hd
            obtain ⟨q, hq, hqa⟩ := at_mem hd
            obtain ⟨n, hn, hqn⟩ := List.getElem_of_mem hq
            have e3 := o2 n hn (by have := h1 es; omega) (by rw [hqn]; exact hqa)
            have e4 : at? (s.wr (s.ag i).stamp) a = some q.2 := by rw [(h.sure i es).2, ← hqa]; exact at_of (h.wsN i (h.sure i es).1) hq
            rw [hqn] at e3
            have h5 := h.stv i (h.sure i es).1 _ hmem
            rw [e3]
            exact (memI_at (h.sure i es).1 (h.stC i).2 e4 (fun u hu _ => o1 u (by simp only at h5 ⊢; omega) (by omega))).symm
    · rcases h.lock k' h1' h2' with ⟨u, hf⟩ | ⟨j, u, hf⟩
      · refine .inl ⟨u, by show ld (st _ _ _) k' = _; rw [L, if_neg e]; exact hf.word, fun j p hp => hf.no j p (heldj j p hp), hf.low, by rw [hC]; exact hf.top, hf.none, fun a ha hl => ?_⟩
        show ld (st _ _ _) a = _
        rw [hD a ha, hC, hm]; exact hf.val a ha hl
      · refine .inr ⟨j, u, by show ld (st _ _ _) k' = _; rw [L, if_neg e]; exact hf.word, ?_, fun j2 p hp hpk => hf.one j2 p (heldj j2 p hp) hpk, hf.low, by rw [hC]; exact hf.top, fun a ha hl hs hw' => ?_, fun a ha hl hn => ?_⟩
        · by_cases e2 : j = i
          · subst e2; rw [ag1]
            have := hf.has
            rw [hh] at this
            rcases List.mem_cons.1 this with e3 | e3
            · injection e3 with e3 _; exact absurd e3 e
            · exact e3
          · rw [ag2 e2]; exact hf.has
        · rw [suj] at hs; rw [wsj] at hw'
          have o := hf.wrote a ha hl hs hw'
          rw [stj]
          refine ⟨o.1, fun n hn hn2 hn3 => ?_⟩
          show ld (st _ _ _) a = _
          rw [hD a ha]
          simp only [wsj] at hn hn3 ⊢
          rw [atj] at hn2
          exact o.2 n hn hn2 hn3
        · rw [suj, wsj] at hn
          have o := hf.else_ a ha hl hn
          refine ⟨o.1, ?_⟩
          show ld (st _ _ _) a = _
          rw [hD a ha, hC, hm]; exact o.2
  · by_cases e : j = i
    · subst e; rw [ag1]; exact nd.2
    · rw [ag2 e]; exact h.nd j
  · rw [stj] at hj ⊢; exact h.stv j hj p (heldj j p hp)
  · rw [stj] at hj; rw [wsj] at hq; rw [suj, atj, wsj] at hs
    by_cases e : j = i
    · subst e
      exfalso
      cases es : (s.ag j).sure with
      | false => have := h2 es; omega
      | true => have := hs es; have := h1 es; omega
    · rw [ag2 e]; exact h.cover j hj hs q hq
  · rw [suj] at hj; rw [stj, wsj]; exact h.sure j hj
  · rw [stj] at hj ⊢; rw [suj] at hs; exact h.pend j hj hs
  · rw [stj] at ha hb; rw [stj] at hb; exact h.uniq a b ha hb
  · rw [stj] at hj; rw [wsj] at hq; exact h.wsD j hj q hq
  · rw [stj] at hj; rw [wsj]; exact h.wsN j hj

/-- i has no stamp any more -/
def Sy.reset (s : Sy) (i : Nat) : Sy := ⟨s.W, upd s.ag i ⟨(s.ag i).held, [], 0, false, 0⟩, s.wr⟩
theorem Inv.reset {E : Env} {s : Sy} (h : Inv E s) {i : Nat} (h1 : (s.ag i).sure = true → (s.ag i).held = []) : Inv E (s.reset i) := by
  have ag1 : (s.reset i).ag i = ⟨(s.ag i).held, [], 0, false, 0⟩ := upd_at _ _ _
  have ag2 : ∀ {j}, j ≠ i → (s.reset i).ag j = s.ag j := fun e => upd_ne _ _ e
  have hj : ∀ j, ((s.reset i).ag j).held = (s.ag j).held := fun j => by
    by_cases e : j = i
    · subst e; rw [ag1]
    · rw [ag2 e]
  have st0 : ∀ j, 0 < ((s.reset i).ag j).stamp → j ≠ i := fun j h0 e => by subst e; rw [ag1] at h0; simp at h0
  refine ⟨h.len, h.clk, h.wrC, h.wrD, fun k k1 k2 => ?_, fun j => by rw [hj]; exact h.nd j, fun j p hp => h.hl j p (by rw [hj] at hp; exact hp), fun j => ?_, fun j h0 p hp => ?_, fun j h0 hs q hq => ?_, fun j h0 => ?_, fun j h0 hs => ?_, fun a b ha hb => ?_, fun j h0 q hq => ?_, fun j h0 => ?_⟩
  · rcases h.lock k k1 k2 with ⟨v, hf⟩ | ⟨j, v, hf⟩
    · exact .inl ⟨v, hf.word, fun j p hp => hf.no j p (by rw [hj] at hp; exact hp), hf.low, hf.top, hf.none, hf.val⟩
    · refine .inr ⟨j, v, hf.word, by rw [hj]; exact hf.has, fun j2 p hp hpk => hf.one j2 p (by rw [hj] at hp; exact hp) hpk, hf.low, hf.top, fun a ha hl hs hw => ?_, fun a ha hl hn => ?_⟩
      · have e : j ≠ i := fun e => by subst e; rw [ag1] at hs; cases hs
        rw [ag2 e] at hs hw ⊢
        exact hf.wrote a ha hl hs hw
      · refine hf.else_ a ha hl ?_
        by_cases e : j = i
        · subst e
          rintro ⟨e1, _⟩
          have := hf.has
          rw [h1 e1] at this; cases this
        · rw [ag2 e] at hn; exact hn
  · by_cases e : j = i
    · subst e; rw [ag1]; exact ⟨Int.le_refl _, h.clk⟩
    · rw [ag2 e]; exact h.stC j
  · have e := st0 j h0; rw [ag2 e] at *; exact h.stv j h0 p hp
  · have e := st0 j h0; rw [ag2 e] at *; exact h.cover j h0 hs q hq
  · have e : j ≠ i := fun e => by subst e; rw [ag1] at h0; cases h0
    rw [ag2 e] at *; exact h.sure j h0
  · have e := st0 j h0; rw [ag2 e] at *; exact h.pend j h0 hs
  · have e := st0 a ha
    have e2 := st0 b (by rw [← hb]; exact ha)
    rw [ag2 e] at ha hb; rw [ag2 e2] at hb; exact h.uniq a b ha hb
  · have e := st0 j h0; rw [ag2 e] at *; exact h.wsD j h0 q hq
  · have e := st0 j h0; rw [ag2 e] at *; exact h.wsN j h0

def Sy.grab (s : Sy) (i : Nat) (k v : Int) : Sy := ⟨st s.W k (2 * i + 1), upd s.ag i { s.ag i with held := (s.ag i).held ++ [(k, v)] }, s.wr⟩
def Sy.bump (s : Sy) (i : Nat) (ws : M) : Sy := ⟨st s.W 1 (s.C + 1), upd s.ag i ⟨(s.ag i).held, ws, s.C + 1, false, 0⟩, s.wr⟩
/-- a step of the i-th one -/
inductive Tr (E : Env) (i : Nat) (s : Sy) : Sy → Prop
  | grab (k v : Int) (h1 : 3 ≤ k) (h2 : k < 3 + E.stripes) (hw : ld s.W k = 2 * v) (h0 : (s.ag i).stamp = 0) : Tr E i s (s.grab i k v)
  | bump (ws : M) (h0 : (s.ag i).stamp = 0) (hc : ∀ q ∈ ws, ∃ v, (E.lk q.1, v) ∈ (s.ag i).held) (hD : ∀ q ∈ ws, E.data q.1) (hN : (ws.map (·.1)).Nodup) : Tr E i s (s.bump i ws)
  | commit (h0 : 0 < (s.ag i).stamp) (hs0 : (s.ag i).sure = false) : Tr E i s (s.commit i)
  | store (q : Int × Int) (hs0 : (s.ag i).sure = true) (hat : (s.ag i).at_ < (s.ag i).ws.length) (hq : (s.ag i).ws[(s.ag i).at_]? = some q) : Tr E i s (s.store i q)
  | release (k v : Int) (rest : M) (hh : (s.ag i).held = (k, v) :: rest) (h1 : (s.ag i).sure = true → (s.ag i).ws.length ≤ (s.ag i).at_) (h2 : (s.ag i).sure = false → (s.ag i).stamp = 0) : Tr E i s (s.release i k v rest)
  | reset (h1 : (s.ag i).sure = true → (s.ag i).held = []) : Tr E i s (s.reset i)
theorem Tr.inv {E : Env} (F : E.Fine) {i : Nat} {s s' : Sy} (h : Inv E s) (t : Tr E i s s') : Inv E s' := by
  cases t with
  | grab k v h1 h2 hw h0 => exact h.grab F h1 h2 hw h0
  | bump ws h0 hc hD hN => exact h.bump F h0 hc hD hN
  | commit h0 hs0 => exact h.commit h0 hs0
  | store q hs0 hat hq => exact h.store F hs0 hat hq
  | release k v rest hh h1 h2 => exact h.release F hh h1 h2
  | reset h1 => exact h.reset h1

/-- what was read at an address, having seen the clock at rv, is what stands there behind all stamps up to rv, and no other one will be there -/
structure ReadOk (E : Env) (s : Sy) (rv a x : Int) : Prop where
  low : 0 ≤ rv
  top : rv ≤ s.C
  val : x = s.mem E rv a
  no : ∀ i, 0 < (s.ag i).stamp → (s.ag i).sure = false → (s.ag i).stamp ≤ rv → at? (s.ag i).ws a = none
/-- a lock's version, whoever holds it -/
def Base (s : Sy) (k v : Int) : Prop := ld s.W k = 2 * v ∨ ∃ i, (k, v) ∈ (s.ag i).held
def HS (s : Sy) (k : Int) : Prop := ∃ i, (s.ag i).sure = true ∧ ∃ v, (k, v) ∈ (s.ag i).held
def Fly1 (s : Sy) (k ver : Int) : Prop := ∀ v, Base s k v → ver ≤ v
def Fly2 (s : Sy) (k ver na nv : Int) : Prop := ∀ v, Base s k v → ver ≤ v ∧ (v = ver → ¬ HS s k → nv = ld s.W na)
/-- between rv and t nobody stores at a -/
structure Vd (s : Sy) (rv t a : Int) : Prop where
  top : t ≤ s.C
  done : ∀ u, rv < u → u < t → at? (s.wr u) a = none
  pend : ∀ i, 0 < (s.ag i).stamp → (s.ag i).sure = false → rv < (s.ag i).stamp → (s.ag i).stamp < t → at? (s.ag i).ws a = none

/-- what each step leaves -/
structure Rel (i : Nat) (s s' : Sy) : Prop where
  clk : s.C ≤ s'.C
  others : ∀ j, j ≠ i → s'.ag j = s.ag j
  wr : ∀ u, s.wr u ≠ [] → s'.wr u = s.wr u
theorem Inv.word1 {E : Env} {s : Sy} (h : Inv E s) {W' : List Int} {k x : Int} (hW : W' = st s.W k x) (hk : inn s.W k = true) (h1 : k ≠ 1) : ld W' 1 = s.C := by
  rw [hW, ld_st x hk, if_neg (Ne.symm h1)]; rfl
theorem Tr.rel {E : Env} (F : E.Fine) {i : Nat} {s s' : Sy} (h : Inv E s) (t : Tr E i s s') : Rel i s s' := by
  cases t with
  | grab k v h1 h2 hw h0 =>
    refine ⟨?_, fun j e => upd_ne _ _ e, fun u _ => rfl⟩
    have := h.word1 (k := k) (x := 2 * i + 1) rfl (inn_of (by omega) (by have := h.len; have := F.fit; omega)) (by omega)
    show _ ≤ ld _ 1
    show _ ≤ ld (st s.W k (2 * i + 1)) 1
    rw [this]; exact Int.le_refl _
  | bump ws h0 hc hD hN =>
    refine ⟨?_, fun j e => upd_ne _ _ e, fun u _ => rfl⟩
    show _ ≤ ld (st s.W 1 (s.C + 1)) 1
    rw [ld_st _ (h.c1 F), if_pos rfl]; omega
  | commit h0 hs0 =>
    refine ⟨Int.le_refl _, fun j e => upd_ne _ _ e, fun u hu => ?_⟩
    rw [s.commit_wr, if_neg]
    rintro rfl
    exact hu (h.pend i h0 hs0)
  | store q hs0 hat hq =>
    refine ⟨?_, fun j e => upd_ne _ _ e, fun u _ => rfl⟩
    obtain ⟨d1, d2, d3, d4⟩ := F.data _ (h.wsD i (h.sure i hs0).1 q (List.mem_of_getElem? hq))
    have := h.word1 (k := q.1) (x := q.2) rfl (inn_of d3 (by have := h.len; omega)) d1
    show _ ≤ ld (st s.W q.1 q.2) 1
    rw [this]; exact Int.le_refl _
  | release k v rest hh h1 h2 =>
    refine ⟨?_, fun j e => upd_ne _ _ e, fun u _ => rfl⟩
    obtain ⟨k1, k2⟩ := h.hl i (k, v) (by rw [hh]; simp)
    simp only at k1 k2
    have := h.word1 (k := k) (x := 2 * vers (s.ag i) v) rfl (inn_of (by omega) (by have := h.len; have := F.fit; omega)) (by omega)
    show _ ≤ ld (st s.W k (2 * vers (s.ag i) v)) 1
    rw [this]; exact Int.le_refl _
  | reset h1 => exact ⟨Int.le_refl _, fun j e => upd_ne _ _ e, fun u _ => rfl⟩

theorem ReadOk.tr {E : Env} (F : E.Fine) {i : Nat} {s s' : Sy} (h : Inv E s) (t : Tr E i s s') {rv a x : Int} (r : ReadOk E s rv a x) : ReadOk E s' rv a x := by
  have R := t.rel F h
  have hc := R.clk
  have key : (∀ j, 0 < (s'.ag j).stamp → (s'.ag j).sure = false → (s'.ag j).stamp ≤ rv → 0 < (s.ag j).stamp ∧ (s.ag j).sure = false ∧ (s.ag j).stamp ≤ rv ∧ (s'.ag j).ws = (s.ag j).ws) → s'.mem E rv a = s.mem E rv a → ReadOk E s' rv a x :=
    fun k1 k2 => ⟨r.low, by have := r.top; omega, by rw [k2]; exact r.val, fun j h1 h2 h3 => by obtain ⟨a1, a2, a3, a4⟩ := k1 j h1 h2 h3; rw [a4]; exact r.no j a1 a2 a3⟩
  have same : ∀ x : Ag, s'.ag i = x → (0 < x.stamp → x.sure = false → x.stamp ≤ rv → 0 < (s.ag i).stamp ∧ (s.ag i).sure = false ∧ (s.ag i).stamp ≤ rv ∧ x.ws = (s.ag i).ws) → ∀ j, 0 < (s'.ag j).stamp → (s'.ag j).sure = false → (s'.ag j).stamp ≤ rv → 0 < (s.ag j).stamp ∧ (s.ag j).sure = false ∧ (s.ag j).stamp ≤ rv ∧ (s'.ag j).ws = (s.ag j).ws :=
    fun x e hx j h1 h2 h3 => by
      by_cases ej : j = i
      · subst ej; rw [e] at h1 h2 h3 ⊢; exact hx h1 h2 h3
      · rw [R.others j ej] at *; exact ⟨h1, h2, h3, rfl⟩
  cases t with
  | grab k v h1 h2 hw h0 => exact key (same _ (upd_at _ _ _) (fun a1 a2 a3 => ⟨a1, a2, a3, rfl⟩)) rfl
  | bump ws h0 hc' hD hN => exact key (same _ (upd_at _ _ _) (fun a1 a2 a3 => by have := r.top; simp only at a3; omega)) rfl
  | commit h0 hs0 =>
    refine key (same _ (upd_at _ _ _) (fun a1 a2 a3 => by cases a2)) (memI_same fun u h1 h2 => ?_)
    rw [s.commit_wr]
    split
    · rename_i e; subst e
      rw [h.pend i h0 hs0, r.no i h0 hs0 h2]; rfl
    · rfl
  | store q hs0 hat hq => exact key (same _ (upd_at _ _ _) (fun a1 a2 a3 => ⟨a1, a2, a3, rfl⟩)) rfl
  | release k v rest hh h1 h2 => exact key (same _ (upd_at _ _ _) (fun a1 a2 a3 => ⟨a1, a2, a3, rfl⟩)) rfl
  | reset h1 => exact key (same _ (upd_at _ _ _) (fun a1 a2 a3 => by simp only at a1; omega)) rfl

theorem Vd.tr {E : Env} (F : E.Fine) {i : Nat} {s s' : Sy} (h : Inv E s) (t : Tr E i s s') {rv t0 a : Int} (r : Vd s rv t0 a) : Vd s' rv t0 a := by
  have R := t.rel F h
  have hc := R.clk
  have key : (∀ x : Ag, s'.ag i = x → (0 < x.stamp → x.sure = false → rv < x.stamp → x.stamp < t0 → at? x.ws a = none)) → (∀ u, rv < u → u < t0 → at? (s'.wr u) a = none) → Vd s' rv t0 a :=
    fun k1 k2 => ⟨by have := r.top; omega, k2, fun j h1 h2 h3 h4 => by
      by_cases ej : j = i
      · subst ej; exact k1 _ rfl h1 h2 h3 h4
      · rw [R.others j ej] at *; exact r.pend j h1 h2 h3 h4⟩
  have up : ∀ {x : Ag}, s'.ag i = upd s.ag i x i → s'.ag i = x := fun e => by rw [e, upd_at]
  cases t with
  | grab k v h1 h2 hw h0 => exact key (fun x e => by rw [← e, up rfl]; exact r.pend i) r.done
  | bump ws h0 hc' hD hN => exact key (fun x e => by rw [← e, up rfl]; intro _ _ _ h4; have := r.top; simp only at h4; omega) r.done
  | commit h0 hs0 =>
    refine key (fun x e => by rw [← e, up rfl]; intro _ h2; cases h2) fun u h1 h2 => ?_
    rw [s.commit_wr]
    split
    · rename_i e; subst e; exact r.pend i h0 hs0 h1 h2
    · exact r.done u h1 h2
  | store q hs0 hat hq => exact key (fun x e => by rw [← e, up rfl]; exact r.pend i) r.done
  | release k v rest hh h1 h2 => exact key (fun x e => by rw [← e, up rfl]; exact r.pend i) r.done
  | reset h1 => exact key (fun x e => by rw [← e, up rfl]; intro h1; simp at h1) r.done

end Tl
end Go.Proofs.YthojgahcpkdemaaGreat

/- words under locks with versions, in plain: reads in flight -/
namespace Go.Proofs.YthojgahcpkdemaaGreat
namespace Tl
open Att (ld st inn)

/-- what was a lock's version ahead of a step -/
theorem Tr.back {E : Env} (F : E.Fine) {i : Nat} {s s' : Sy} (h : Inv E s) (t : Tr E i s s') {k v : Int} (hk : 3 ≤ k) (hk2 : k < 3 + E.stripes) (hb : Base s' k v) :
    ∃ v0, Base s k v0 ∧ v0 ≤ v ∧ (v0 = v → ¬ HS s' k → ¬ HS s k ∧ ∀ a, E.data a → E.lk a = k → ld s'.W a = ld s.W a) := by
  have hfit := F.fit
  have hlen := h.len
  cases t with
  | grab k' v' h1 h2 hw h0 =>
    have L := fun a => ld_st (2 * (i : Int) + 1) (inn_of (W := s.W) (k := k') (by omega) (by omega)) a
    have hns : (s.ag i).sure = false := by
      cases e : (s.ag i).sure with
      | false => rfl
      | true => have := (h.sure i e).1; omega
    have ag1 : (s.grab i k' v').ag i = { s.ag i with held := (s.ag i).held ++ [(k', v')] } := upd_at _ _ _
    have ag2 : ∀ {j}, j ≠ i → (s.grab i k' v').ag j = s.ag j := fun e => upd_ne _ _ e
    have B : Base s k v := by
      rcases hb with hb | ⟨j, hb⟩
      · have hb' : ld (st s.W k' (2 * i + 1)) k = 2 * v := hb
        rw [L] at hb'
        split at hb'
        · omega
        · exact .inl hb'
      · by_cases e : j = i
        · subst e
          rw [ag1] at hb
          rcases List.mem_append.1 hb with hb | hb
          · exact .inr ⟨j, hb⟩
          · have := List.mem_singleton.1 hb
            injection this with e1 e2
            subst e1; subst e2
            exact .inl hw
        · rw [ag2 e] at hb; exact .inr ⟨j, hb⟩
    refine ⟨v, B, Int.le_refl _, fun _ hn => ⟨fun ⟨j, hj, u, hu⟩ => hn ⟨j, ?_⟩, fun a ha hl => ?_⟩⟩
    · have e : j ≠ i := fun e => by subst e; rw [hns] at hj; cases hj
      rw [ag2 e]; exact ⟨hj, u, hu⟩
    · show ld (st s.W k' _) a = _
      rw [L, if_neg (by have := F.data a ha; omega)]
  | bump ws h0 hc hD hN =>
    have L := fun a => ld_st (s.C + 1) (h.c1 F) a
    have hns : (s.ag i).sure = false := by
      cases e : (s.ag i).sure with
      | false => rfl
      | true => have := (h.sure i e).1; omega
    have hj : ∀ j, ((s.bump i ws).ag j).held = (s.ag j).held := fun j => by
      by_cases e : j = i
      · subst e; show (upd _ _ _ _).held = _; rw [upd_at]
      · show (upd _ _ _ _).held = _; rw [upd_ne _ _ e]
    have B : Base s k v := by
      rcases hb with hb | ⟨j, hb⟩
      · have hb' : ld (st s.W 1 (s.C + 1)) k = 2 * v := hb
        rw [L, if_neg (by omega)] at hb'
        exact .inl hb'
      · rw [hj] at hb; exact .inr ⟨j, hb⟩
    refine ⟨v, B, Int.le_refl _, fun _ hn => ⟨fun ⟨j, hj', u, hu⟩ => hn ⟨j, ?_⟩, fun a ha hl => ?_⟩⟩
    · have e : j ≠ i := fun e => by subst e; rw [hns] at hj'; cases hj'
      have : (s.bump i ws).ag j = s.ag j := upd_ne _ _ e
      rw [this]; exact ⟨hj', u, hu⟩
    · show ld (st s.W 1 _) a = _
      rw [L, if_neg (F.data a ha).1]
  | commit h0 hs0 =>
    have ag1 : (s.commit i).ag i = ⟨(s.ag i).held, (s.ag i).ws, (s.ag i).stamp, true, 0⟩ := upd_at _ _ _
    have ag2 : ∀ {j}, j ≠ i → (s.commit i).ag j = s.ag j := fun e => upd_ne _ _ e
    have hj : ∀ j, ((s.commit i).ag j).held = (s.ag j).held := fun j => by
      by_cases e : j = i
      · subst e; rw [ag1]
      · rw [ag2 e]
    have B : Base s k v := by
      rcases hb with hb | ⟨j, hb⟩
      · exact .inl hb
      · rw [hj] at hb; exact .inr ⟨j, hb⟩
    refine ⟨v, B, Int.le_refl _, fun _ hn => ⟨fun ⟨j, hj', u, hu⟩ => hn ⟨j, ?_, u, by rw [hj]; exact hu⟩, fun a ha hl => rfl⟩⟩
    by_cases e : j = i
    · subst e; rw [ag1]
    · rw [ag2 e]; exact hj'
  | store q hs0 hat hq =>
    obtain ⟨d1, d2, d3, d4⟩ := F.data _ (h.wsD i (h.sure i hs0).1 q (List.mem_of_getElem? hq))
    have L := fun a => ld_st q.2 (inn_of (W := s.W) (k := q.1) d3 (by omega)) a
    have ag1 : (s.store i q).ag i = { s.ag i with at_ := (s.ag i).at_ + 1 } := upd_at _ _ _
    have ag2 : ∀ {j}, j ≠ i → (s.store i q).ag j = s.ag j := fun e => upd_ne _ _ e
    have hj : ∀ j, ((s.store i q).ag j).held = (s.ag j).held ∧ ((s.store i q).ag j).sure = (s.ag j).sure := fun j => by
      by_cases e : j = i
      · subst e; rw [ag1]; exact ⟨rfl, rfl⟩
      · rw [ag2 e]; exact ⟨rfl, rfl⟩
    have B : Base s k v := by
      rcases hb with hb | ⟨j, hb⟩
      · have hb' : ld (st s.W q.1 q.2) k = 2 * v := hb
        rw [L, if_neg (by omega)] at hb'
        exact .inl hb'
      · rw [(hj j).1] at hb; exact .inr ⟨j, hb⟩
    refine ⟨v, B, Int.le_refl _, fun _ hn => ⟨fun ⟨j, hj', u, hu⟩ => hn ⟨j, by rw [(hj j).2]; exact hj', u, by rw [(hj j).1]; exact hu⟩, fun a ha hl => ?_⟩⟩
    show ld (st s.W q.1 q.2) a = _
    rw [L]
    split
    · rename_i e
      subst e
      exfalso
      obtain ⟨u, hu⟩ := h.cover i (h.sure i hs0).1 (fun _ => hat) q (List.mem_of_getElem? hq)
      rw [hl] at hu
      exact hn ⟨i, by rw [(hj i).2]; exact hs0, u, by rw [(hj i).1]; exact hu⟩
    · rfl
  | release k' v' rest hh h1 h2 =>
    have hmem : (k', v') ∈ (s.ag i).held := by rw [hh]; simp
    obtain ⟨kb1, kb2⟩ := h.hl i (k', v') hmem
    simp only at kb1 kb2
    have L := fun a => ld_st (2 * vers (s.ag i) v') (inn_of (W := s.W) (k := k') (by omega) (by omega)) a
    have ag1 : (s.release i k' v' rest).ag i = { s.ag i with held := rest } := upd_at _ _ _
    have ag2 : ∀ {j}, j ≠ i → (s.release i k' v' rest).ag j = s.ag j := fun e => upd_ne _ _ e
    have H := h.holds hmem
    have hD : ∀ a, E.data a → ld (s.release i k' v' rest).W a = ld s.W a := fun a ha => by
      show ld (st s.W k' _) a = _
      rw [L, if_neg (by have := F.data a ha; omega)]
    have old : ∀ j, (k, v) ∈ ((s.release i k' v' rest).ag j).held → (k, v) ∈ (s.ag j).held := fun j hm => by
      by_cases e : j = i
      · subst e; rw [ag1] at hm; rw [hh]; exact List.mem_cons_of_mem _ hm
      · rw [ag2 e] at hm; exact hm
    by_cases ek : k = k'
    · subst ek
      have hvv : v = vers (s.ag i) v' := by
        rcases hb with hb | ⟨j, hb⟩
        · have hb' : ld (st s.W k (2 * vers (s.ag i) v')) k = 2 * v := hb
          rw [L, if_pos rfl] at hb'
          omega
        · exfalso
          obtain ⟨e1, e2⟩ := H.one j _ (old j hb) rfl
          subst e1
          rw [ag1] at hb
          have nd := h.nd j
          rw [hh, List.map_cons, List.nodup_cons] at nd
          exact nd.1 (List.mem_map.2 ⟨_, hb, rfl⟩)
      have hle : v' ≤ v := by
        rw [hvv]; unfold vers
        split
        · rename_i e; exact Int.le_of_lt (h.stv i (h.sure i e).1 _ hmem)
        · exact Int.le_refl _
      refine ⟨v', .inr ⟨i, hmem⟩, hle, fun hv _ => ⟨fun ⟨j, hj', u, hu⟩ => ?_, fun a ha hl => hD a ha⟩⟩
      obtain ⟨e1, _⟩ := H.one j _ hu rfl
      subst e1
      have := h.stv j (h.sure j hj').1 _ hmem
      rw [hv, hvv] at this
      unfold vers at this
      rw [if_pos hj'] at this
      omega
    · have B : Base s k v := by
        rcases hb with hb | ⟨j, hb⟩
        · have hb' : ld (st s.W k' (2 * vers (s.ag i) v')) k = 2 * v := hb
          rw [L, if_neg ek] at hb'
          exact .inl hb'
        · exact .inr ⟨j, old j hb⟩
      refine ⟨v, B, Int.le_refl _, fun _ hn => ⟨fun ⟨j, hj', u, hu⟩ => hn ⟨j, ?_⟩, fun a ha hl => hD a ha⟩⟩
      by_cases e : j = i
      · subst e
        rw [ag1]
        rw [hh] at hu
        rcases List.mem_cons.1 hu with e3 | e3
        · injection e3 with e3 _; exact absurd e3 ek
        · exact ⟨hj', u, e3⟩
      · rw [ag2 e]; exact ⟨hj', u, hu⟩
  | reset h1 =>
    have ag1 : (s.reset i).ag i = ⟨(s.ag i).held, [], 0, false, 0⟩ := upd_at _ _ _
    have ag2 : ∀ {j}, j ≠ i → (s.reset i).ag j = s.ag j := fun e => upd_ne _ _ e
    have hj : ∀ j, ((s.reset i).ag j).held = (s.ag j).held := fun j => by
      by_cases e : j = i
      · subst e; rw [ag1]
      · rw [ag2 e]
    have B : Base s k v := by
      rcases hb with hb | ⟨j, hb⟩
      · exact .inl hb
      · rw [hj] at hb; exact .inr ⟨j, hb⟩
    refine ⟨v, B, Int.le_refl _, fun _ hn => ⟨fun ⟨j, hj', u, hu⟩ => hn ⟨j, ?_⟩, fun a ha hl => rfl⟩⟩
    have e : j ≠ i := fun e => by subst e; rw [h1 hj'] at hu; cases hu
    rw [ag2 e]; exact ⟨hj', u, hu⟩

theorem Fly1.tr {E : Env} (F : E.Fine) {i : Nat} {s s' : Sy} (h : Inv E s) (t : Tr E i s s') {k ver : Int} (hk : 3 ≤ k) (hk2 : k < 3 + E.stripes) (r : Fly1 s k ver) : Fly1 s' k ver := fun v hb => by
  obtain ⟨v0, h1, h2, _⟩ := t.back F h hk hk2 hb
  have := r v0 h1; omega
theorem Fly2.tr {E : Env} (F : E.Fine) {i : Nat} {s s' : Sy} (h : Inv E s) (t : Tr E i s s') {k ver na nv : Int} (hk : 3 ≤ k) (hk2 : k < 3 + E.stripes) (hd : E.data na) (hl : E.lk na = k) (r : Fly2 s k ver na nv) : Fly2 s' k ver na nv := fun v hb => by
  obtain ⟨v0, h1, h2, h3⟩ := t.back F h hk hk2 hb
  have q := r v0 h1
  refine ⟨by omega, fun e hn => ?_⟩
  have e0 : v0 = v := by omega
  obtain ⟨a1, a2⟩ := h3 e0 hn
  rw [a2 na hd hl]
  exact q.2 (by omega) a1

/-- a lock's word is found free -/
theorem Inv.fly1 {E : Env} {s : Sy} (h : Inv E s) {k ver : Int} (hk : 3 ≤ k) (hk2 : k < 3 + E.stripes) (hw : ld s.W k = 2 * ver) : Fly1 s k ver := fun v hb => by
  have f := h.free hk hk2 hw
  rcases hb with hb | ⟨j, hb⟩
  · omega
  · exact absurd rfl (f.no j _ hb)
/-- the word is read -/
theorem Fly1.two {s : Sy} {k ver na : Int} (r : Fly1 s k ver) : Fly2 s k ver na (ld s.W na) := fun v hb => ⟨r v hb, fun _ _ => rfl⟩
/-- the lock's word is the same still -/
theorem Inv.read {E : Env} {s : Sy} (h : Inv E s) {k ver na nv : Int} (hk : 3 ≤ k) (hk2 : k < 3 + E.stripes) (hd : E.data na) (hl : E.lk na = k) (hw : ld s.W k = 2 * ver) (r : Fly2 s k ver na nv) :
    nv = s.mem E s.C na ∧ 0 ≤ ver ∧ ver ≤ s.C ∧ (∀ u, ver < u → at? (s.wr u) na = none) ∧ ∀ j, 0 < (s.ag j).stamp → (s.ag j).sure = false → at? (s.ag j).ws na = none := by
  have f := h.free hk hk2 hw
  have q := r ver (.inl hw)
  have nh : ¬ HS s k := fun ⟨j, _, u, hu⟩ => absurd rfl (f.no j _ hu)
  refine ⟨by rw [q.2 rfl nh]; exact f.val na hd hl, f.low, f.top, f.none na hd hl, fun j h1 h2 => ?_⟩
  cases e : at? (s.ag j).ws na with
  | none => rfl
  | some x =>
    exfalso
    obtain ⟨p, hp, hpa⟩ := at_mem (l := (s.ag j).ws) (a := na) (by rw [e]; simp)
    obtain ⟨u, hu⟩ := h.cover j h1 (fun e => by rw [h2] at e; cases e) p hp
    rw [hpa, hl] at hu
    exact absurd rfl (f.no j _ hu)
theorem Inv.readOk {E : Env} {s : Sy} (h : Inv E s) {k ver na nv rv : Int} (hk : 3 ≤ k) (hk2 : k < 3 + E.stripes) (hd : E.data na) (hl : E.lk na = k) (hw : ld s.W k = 2 * ver) (r : Fly2 s k ver na nv) (h1 : ver ≤ rv) (h2 : rv ≤ s.C) : ReadOk E s rv na nv := by
  obtain ⟨a1, a2, a3, a4, a5⟩ := h.read hk hk2 hd hl hw r
  refine ⟨by omega, h2, ?_, fun j b1 b2 _ => a5 j b1 b2⟩
  rw [a1]
  show memI s.wr E.first s.C na = memI s.wr E.first rv na
  exact memI_up (by omega) h2 fun u c1 c2 => a4 u (by omega)

end Tl
end Go.Proofs.YthojgahcpkdemaaGreat

/- an attempt's steps, as steps of the machine with versions -/
namespace Go.Proofs.YthojgahcpkdemaaGreat
namespace Tl
open Att (ld st inn)
/-- steps of the i-th one -/
inductive Trs (E : Env) (i : Nat) : Sy → Sy → Prop
  | nil (s : Sy) : Trs E i s s
  | cons {s s1 s2 : Sy} (t : Tr E i s s1) (r : Trs E i s1 s2) : Trs E i s s2
theorem Trs.one {E : Env} {i : Nat} {s s' : Sy} (t : Tr E i s s') : Trs E i s s' := .cons t (.nil _)
theorem Trs.inv {E : Env} (F : E.Fine) {i : Nat} {s s' : Sy} (t : Trs E i s s') (h : Inv E s) : Inv E s' := by
  induction t with
  | nil s => exact h
  | cons t r ih => exact ih (t.inv F h)
theorem Trs.rel {E : Env} (F : E.Fine) {i : Nat} {s s' : Sy} (t : Trs E i s s') (h : Inv E s) : Rel i s s' := by
  induction t with
  | nil s => exact ⟨Int.le_refl _, fun _ _ => rfl, fun _ _ => rfl⟩
  | cons t r ih =>
    have r1 := t.rel F h
    have r2 := ih (t.inv F h)
    exact ⟨Int.le_trans r1.clk r2.clk, fun j e => (r2.others j e).trans (r1.others j e), fun u hu => (r2.wr u (by rw [r1.wr u hu]; exact hu)).trans (r1.wr u hu)⟩
theorem ReadOk.trs {E : Env} (F : E.Fine) {i : Nat} {s s' : Sy} (t : Trs E i s s') (h : Inv E s) {rv a x : Int} (r : ReadOk E s rv a x) : ReadOk E s' rv a x := by
  induction t with
  | nil s => exact r
  | cons t r' ih => exact ih (t.inv F h) (r.tr F h t)
theorem Vd.trs {E : Env} (F : E.Fine) {i : Nat} {s s' : Sy} (t : Trs E i s s') (h : Inv E s) {rv t0 a : Int} (r : Vd s rv t0 a) : Vd s' rv t0 a := by
  induction t with
  | nil s => exact r
  | cons t r' ih => exact ih (t.inv F h) (r.tr F h t)
theorem Fly1.trs {E : Env} (F : E.Fine) {i : Nat} {s s' : Sy} (t : Trs E i s s') (h : Inv E s) {k ver : Int} (hk : 3 ≤ k) (hk2 : k < 3 + E.stripes) (r : Fly1 s k ver) : Fly1 s' k ver := by
  induction t with
  | nil s => exact r
  | cons t r' ih => exact ih (t.inv F h) (r.tr F h t hk hk2)
theorem Fly2.trs {E : Env} (F : E.Fine) {i : Nat} {s s' : Sy} (t : Trs E i s s') (h : Inv E s) {k ver na nv : Int} (hk : 3 ≤ k) (hk2 : k < 3 + E.stripes) (hd : E.data na) (hl : E.lk na = k) (r : Fly2 s k ver na nv) : Fly2 s' k ver na nv := by
  induction t with
  | nil s => exact r
  | cons t r' ih => exact ih (t.inv F h) (r.tr F h t hk hk2 hd hl)
end Tl

namespace Att
def stB (T : AT) : Bool := decide (T.phase = 7 ∨ T.phase = 8 ∨ (9 ≤ T.phase ∧ T.how = 1 ∧ T.writes ≠ []))
def suB (T : AT) : Bool := decide (T.phase = 8 ∨ (9 ≤ T.phase ∧ T.how = 1 ∧ T.writes ≠ []))
def halves (l : M) : M := l.map fun p => (p.1, p.2 / 2)
def agOf (T : AT) : Tl.Ag := ⟨halves (heldOf T), if stB T then T.writes else [], if stB T then T.stamp else 0, suB T, if T.phase = 8 then T.at_.toNat else if suB T then T.writes.length else 0⟩
def ag0 : Tl.Ag := ⟨[], [], 0, false, 0⟩

theorem su_no {T : AT} (h : stB T = false) : suB T = false := by
  unfold stB suB at *
  rw [decide_eq_false_iff_not] at *
  exact fun hh => h (.inr hh)
theorem st_no {T : AT} (h : T.phase ≤ 6 ∨ (9 ≤ T.phase ∧ T.how ≠ 1) ∨ (9 ≤ T.phase ∧ T.writes = [])) : stB T = false := by
  unfold stB
  rw [decide_eq_false_iff_not]
  rintro (h' | h' | ⟨h1, h2, h3⟩)
  · omega
  · omega
  · rcases h with h | h | h
    · omega
    · exact h.2 h2
    · exact h3 h.2
theorem ag_no {T : AT} (h : stB T = false) (h8 : T.phase ≠ 8) : agOf T = ⟨halves (heldOf T), [], 0, false, 0⟩ := by
  unfold agOf
  rw [h, su_no h, if_neg h8]; rfl
theorem ag_low {T : AT} (h : T.phase ≤ 3) : agOf T = ag0 := by
  rw [ag_no (st_no (.inl (by omega))) (by omega)]
  unfold heldOf; rw [if_neg (by omega), if_pos (by omega)]; rfl
theorem held_mid {T : AT} (h : 4 ≤ T.phase ∧ T.phase ≤ 8) : heldOf T = T.holds := by unfold heldOf; rw [if_neg (by omega), if_neg (by omega)]
theorem ag_mid {T : AT} (h : 4 ≤ T.phase ∧ T.phase ≤ 6) : agOf T = ⟨halves T.holds, [], 0, false, 0⟩ := by
  rw [ag_no (st_no (.inl (by omega))) (by omega), held_mid (by omega)]
theorem ag_7 {T : AT} (h : T.phase = 7) : agOf T = ⟨halves T.holds, T.writes, T.stamp, false, 0⟩ := by
  have e1 : stB T = true := by unfold stB; rw [decide_eq_true_eq]; exact .inl h
  have e2 : suB T = false := by unfold suB; rw [decide_eq_false_iff_not]; rintro (h' | ⟨h', _⟩) <;> omega
  have h8 : ¬ T.phase = 8 := by omega
  unfold agOf
  rw [e1, e2, held_mid (by omega)]; simp [h8]
theorem ag_8 {T : AT} (h : T.phase = 8) : agOf T = ⟨halves T.holds, T.writes, T.stamp, true, T.at_.toNat⟩ := by
  have e1 : stB T = true := by unfold stB; rw [decide_eq_true_eq]; exact .inr (.inl h)
  have e2 : suB T = true := by unfold suB; rw [decide_eq_true_eq]; exact .inl h
  unfold agOf
  rw [e1, e2, held_mid (by omega), if_pos h]; rfl
theorem ag_sure {T : AT} (h : 9 ≤ T.phase) (h1 : T.how = 1) (hw : T.writes ≠ []) : agOf T = ⟨halves (heldOf T), T.writes, T.stamp, true, T.writes.length⟩ := by
  have e1 : stB T = true := by unfold stB; rw [decide_eq_true_eq]; exact .inr (.inr ⟨h, h1, hw⟩)
  have e2 : suB T = true := by unfold suB; rw [decide_eq_true_eq]; exact .inr ⟨h, h1, hw⟩
  have h8 : ¬ T.phase = 8 := by omega
  unfold agOf
  rw [e1, e2]; simp [h8]
theorem ag_up {T : AT} {how : Int} (h : 4 ≤ T.phase ∧ T.phase ≤ 8) (h1 : how ≠ 1) : agOf (giveUp T how) = ⟨halves T.holds, [], 0, false, 0⟩ := by
  have hp := up_phase T how
  rw [ag_no (st_no (.inr (.inl ⟨hp, by rw [up_how]; exact h1⟩))) (by omega), held_up h, held_mid h]
theorem ag_fin {T : AT} {how : Int} (h1 : how ≠ 1 ∨ T.writes = []) : agOf (fin T how) = ag0 := by
  have h10 : (fin T how).phase = 10 := rfl
  rw [ag_no (st_no (by
    rcases h1 with h1 | h1
    · exact .inr (.inl ⟨by rw [h10]; omega, h1⟩)
    · exact .inr (.inr ⟨by rw [h10]; omega, h1⟩))) (by rw [h10]; omega)]
  unfold heldOf; rw [if_neg (by rw [h10]; omega), if_pos (.inl h10)]; rfl

/-- where it stands -/
def tlE (E : Env) (lo : Int) (μ : Int → Int) : Tl.Env := ⟨E.stripes, E.words, lock E, fun a => a = 2 ∨ (lo ≤ a ∧ a < E.words), μ⟩
theorem tlE_fine {E : Env} {lo : Int} {d : Nat} (G : Good E lo d) (μ : Int → Int) : (tlE E lo μ).Fine := by
  have h1 := G.str; have h2 := G.lo3; have h3 := G.fits
  have hd : ∀ a, (tlE E lo μ).data a → 0 ≤ a ∧ a < E.words ∧ (a = 2 ∨ 3 + E.stripes ≤ a) := fun a ha => by
    rcases ha with rfl | ha
    · omega
    · omega
  refine ⟨h1, by show 3 + E.stripes ≤ E.words; omega, fun a ha => ?_, fun a ha => ?_⟩
  · have := hd a ha
    exact lock_in G this.1 this.2.1
  · have := hd a ha
    show a ≠ 1 ∧ (a < 3 ∨ 3 + E.stripes ≤ a) ∧ 0 ≤ a ∧ a < E.words
    omega

/-- what holds of an attempt among others -/
structure Fl (E : Tl.Env) (s : Tl.Sy) (T : AT) : Prop where
  seen : 0 ≤ T.seen ∧ T.seen ≤ s.C
  reads : ∀ p ∈ T.reads, Tl.ReadOk E s T.seen p.1 p.2
  p2 : T.phase = 2 → E.data T.na ∧ ∃ ver, T.was = 2 * ver ∧ ver ≤ T.seen ∧ Tl.Fly1 s (E.lk T.na) ver
  p3 : T.phase = 3 → E.data T.na ∧ ∃ ver, T.was = 2 * ver ∧ ver ≤ T.seen ∧ Tl.Fly2 s (E.lk T.na) ver T.na T.nv
  p5 : T.phase = 5 → ∃ ver, T.was = 2 * ver ∧ ver ≤ T.seen
  holds : ∀ p ∈ T.holds, p.2 % 2 = 0 ∧ p.2 / 2 ≤ T.seen
  p7 : T.phase = 7 → 0 < T.stamp
theorem Fl.trs {E : Tl.Env} (F : E.Fine) {i : Nat} {s s' : Tl.Sy} (t : Tl.Trs E i s s') (I : Tl.Inv E s) {T : AT} (h : Fl E s T) : Fl E s' T := by
  have R := t.rel F I
  refine ⟨⟨h.seen.1, Int.le_trans h.seen.2 R.clk⟩, fun p hp => (h.reads p hp).trs F t I, fun h2 => ?_, fun h3 => ?_, h.p5, h.holds, h.p7⟩
  · obtain ⟨hd, ver, a1, a2, a3⟩ := h.p2 h2
    have := F.lk _ hd
    exact ⟨hd, ver, a1, a2, a3.trs F t I this.1 this.2⟩
  · obtain ⟨hd, ver, a1, a2, a3⟩ := h.p3 h3
    have := F.lk _ hd
    exact ⟨hd, ver, a1, a2, a3.trs F t I this.1 this.2 hd rfl⟩
theorem Fl.keep {E : Tl.Env} {s : Tl.Sy} {T T' : AT} (h : Fl E s T) (e1 : T'.seen = T.seen) (e2 : T'.reads = T.reads) (e3 : T'.holds = T.holds) (hp : T'.phase ≠ 2 ∧ T'.phase ≠ 3 ∧ T'.phase ≠ 5 ∧ (T'.phase = 7 → 0 < T'.stamp)) : Fl E s T' :=
  ⟨by rw [e1]; exact h.seen, by rw [e1, e2]; exact h.reads, fun h2 => absurd h2 hp.1, fun h2 => absurd h2 hp.2.1, fun h2 => absurd h2 hp.2.2.1, by rw [e1, e3]; exact h.holds, hp.2.2.2⟩
theorem Fl.up {E : Tl.Env} {s : Tl.Sy} {T T' : AT} (h : Fl E s T) (e1 : T'.seen = T.seen) (e2 : T'.reads = T.reads) (e3 : T'.holds = T.holds) (how : Int) : Fl E s (giveUp T' how) := by
  have e := up_phase T' how
  refine h.keep ?_ ?_ ?_ ⟨by omega, by omega, by omega, fun h => by omega⟩
  · rw [(up_seen T' how).1, e1]
  · unfold giveUp; split <;> exact e2
  · unfold giveUp; split <;> exact e3
theorem freshB_two {v a : Int} (h : freshB v a = true) : ∃ ver, v = 2 * ver ∧ ver ≤ a := by
  unfold freshB at h; simp only [decide_eq_true_eq] at h; exact ⟨v / 2, by omega, by omega⟩
theorem halves_append (a b : M) : halves (a ++ b) = halves a ++ halves b := List.map_append

set_option maxHeartbeats 1000000 in
theorem att_tr {E : Env} {lo : Int} {d : Nat} (G : Good E lo d) {μ : Int → Int} {s : Tl.Sy} {i : Nat} {T : AT} (I : Tl.Inv (tlE E lo μ) s) (wf : WF E lo d T) (hlow : T.phase ≤ 3 → T.writes = []) (own : T.owner = i) (hi : i < 64) (hck : E.clock ≤ 1099511627776) (hsC : s.C ≤ 1099511627776)
    (ha : s.ag i = agOf T) (F : Fl (tlE E lo μ) s T) (hp : T.phase ≠ 10) :
    ∃ s', Tl.Trs (tlE E lo μ) i s s' ∧ s'.W = (step E T s.W).2 ∧ s'.ag i = agOf (step E T s.W).1 ∧ Fl (tlE E lo μ) s' (step E T s.W).1 ∧ ∀ u, s'.wr u = s.wr u ∨ ((step E T s.W).1.phase = 8 ∧ (step E T s.W).1.stamp = u) := by
  have FE := tlE_fine G μ
  have GS := G.str; have G3 := G.lo3; have GF := G.fits
  have hlen : (s.W.length : Int) = E.words := I.len
  have hin1 : inn s.W 1 = true := inn_len hlen (by omega) (by omega)
  have hph := wf.ph
  have hC : s.C = ld s.W 1 := rfl
  have hC0 := I.clk
  have quiet : ∀ T' : AT, agOf T' = agOf T → Fl (tlE E lo μ) s T' → ∃ s', Tl.Trs (tlE E lo μ) i s s' ∧ s'.W = s.W ∧ s'.ag i = agOf T' ∧ Fl (tlE E lo μ) s' T' ∧ ∀ u, s'.wr u = s.wr u ∨ (T'.phase = 8 ∧ T'.stamp = u) :=
    fun T' e f => ⟨s, .nil s, rfl, by rw [ha, e], f, fun _ => .inl rfl⟩
  have dna : (T.phase = 1 ∨ T.phase = 2 ∨ T.phase = 3) → (tlE E lo μ).data T.na := fun h => by
    rcases (wf.needs h).2.2 with h | h
    · exact .inl h.2
    · exact .inr ⟨h.2.1.1, by omega⟩
  unfold step
  rw [if_neg hp]
  by_cases c0 : T.phase = 0
  · rw [if_pos c0]
    have hz := wf.zero c0
    have lw := hlow (by omega)
    unfold sees; simp only
    split
    · refine quiet _ ?_ ⟨⟨hC0, Int.le_refl _⟩, fun p hp => ?_, fun h => ?_, fun h => ?_, fun h => ?_, fun p hp => ?_, fun h => absurd (show (10 : Int) = 7 from h) (by omega)⟩
      · rw [ag_fin (.inl (by omega)), ag_low (by omega)]
      · have hp : p ∈ T.reads := hp; rw [hz.1] at hp; cases hp
      · have h : (10 : Int) = 2 := h; omega
      · have h : (10 : Int) = 3 := h; omega
      · have h : (10 : Int) = 5 := h; omega
      · have hp : p ∈ T.holds := hp; rw [hz.2.2] at hp; cases hp
    · refine quiet _ ?_ ⟨⟨hC0, Int.le_refl _⟩, fun p hp => ?_, fun h => ?_, fun h => ?_, fun h => ?_, fun p hp => ?_, fun h => absurd (show (1 : Int) = 7 from h) (by omega)⟩
      · rw [ag_low (by show (1 : Int) ≤ 3; omega), ag_low (by omega)]
      · have hp : p ∈ T.reads := hp; rw [hz.1] at hp; cases hp
      · have h : (1 : Int) = 2 := h; omega
      · have h : (1 : Int) = 3 := h; omega
      · have h : (1 : Int) = 5 := h; omega
      · have hp : p ∈ T.holds := hp; rw [hz.2.2] at hp; cases hp
  rw [if_neg c0]
  by_cases c1 : T.phase = 1
  · rw [if_pos c1]
    have lw := hlow (by omega)
    have hd := dna (.inl c1)
    have kl := FE.lk _ hd
    unfold locked; simp only
    split
    · rename_i hf
      obtain ⟨ver, hv1, hv2⟩ := freshB_two hf
      refine quiet _ ?_ ⟨F.seen, F.reads, fun h => ?_, fun h => ?_, fun h => ?_, F.holds, fun h => absurd (show (2 : Int) = 7 from h) (by omega)⟩
      · rw [ag_low (by show (2 : Int) ≤ 3; omega), ag_low (by omega)]
      · exact ⟨hd, ver, hv1, hv2, I.fly1 kl.1 kl.2 hv1⟩
      · have h : (2 : Int) = 3 := h; omega
      · have h : (2 : Int) = 5 := h; omega
    · refine quiet _ ?_ (F.keep rfl rfl rfl ⟨by show ¬ ((10 : Int) = 2); omega, by show ¬ ((10 : Int) = 3); omega, by show ¬ ((10 : Int) = 5); omega, fun h => absurd (show (10 : Int) = 7 from h) (by omega)⟩)
      rw [ag_fin (.inl (by omega)), ag_low (by omega)]
  rw [if_neg c1]
  by_cases c2 : T.phase = 2
  · rw [if_pos c2]
    obtain ⟨hd, ver, hv1, hv2, hv3⟩ := F.p2 c2
    unfold loads
    refine quiet _ ?_ ⟨F.seen, F.reads, fun h => ?_, fun h => ?_, fun h => ?_, F.holds, fun h => absurd (show (3 : Int) = 7 from h) (by omega)⟩
    · rw [ag_low (by show (3 : Int) ≤ 3; omega), ag_low (by omega)]
    · have h : (3 : Int) = 2 := h; omega
    · exact ⟨hd, ver, hv1, hv2, hv3.two⟩
    · have h : (3 : Int) = 5 := h; omega
  rw [if_neg c2]
  by_cases c3 : T.phase = 3
  · rw [if_pos c3]
    have lw := hlow (by omega)
    obtain ⟨hd, ver, hv1, hv2, hv3⟩ := F.p3 c3
    have kl := FE.lk _ hd
    have hh := (wf.needs (by omega)).2.1
    unfold confirms
    split
    · refine quiet _ ?_ (F.keep rfl rfl rfl ⟨by show ¬ ((10 : Int) = 2); omega, by show ¬ ((10 : Int) = 3); omega, by show ¬ ((10 : Int) = 5); omega, fun h => absurd (show (10 : Int) = 7 from h) (by omega)⟩)
      rw [ag_fin (.inl (by omega)), ag_low (by omega)]
    · rename_i hc
      have hw : ld s.W (lock E T.na) = T.was := Classical.byContradiction fun h => hc (.inl h)
      have rd : Tl.ReadOk (tlE E lo μ) s T.seen T.na T.nv := I.readOk kl.1 kl.2 hd rfl (by rw [← hv1]; exact hw) hv3 hv2 F.seen.2
      have rds : ∀ p ∈ T.reads ++ [(T.na, T.nv)], Tl.ReadOk (tlE E lo μ) s T.seen p.1 p.2 := fun p hp => by
        rcases List.mem_append.1 hp with hp | hp
        · exact F.reads p hp
        · rw [List.mem_singleton.1 hp]; exact rd
      unfold goesOn; simp only
      split
      · refine quiet _ ?_ ⟨F.seen, rds, fun h => ?_, fun h => ?_, fun h => ?_, F.holds, fun h => absurd (show (1 : Int) = 7 from h) (by omega)⟩
        · rw [ag_low (by show (1 : Int) ≤ 3; omega), ag_low (by omega)]
        · have h : (1 : Int) = 2 := h; omega
        · have h : (1 : Int) = 3 := h; omega
        · have h : (1 : Int) = 5 := h; omega
      · split
        · refine quiet _ ?_ ⟨F.seen, rds, fun h => ?_, fun h => ?_, fun h => ?_, F.holds, fun h => absurd (show (10 : Int) = 7 from h) (by omega)⟩
          · exact Eq.trans (b := ag0) (ag_fin (.inr lw)) (ag_low (by omega)).symm
          · have h : (10 : Int) = 2 := h; omega
          · have h : (10 : Int) = 3 := h; omega
          · have h : (10 : Int) = 5 := h; omega
        · refine quiet _ ?_ ⟨F.seen, rds, fun h => ?_, fun h => ?_, fun h => ?_, F.holds, fun h => absurd (show (4 : Int) = 7 from h) (by omega)⟩
          · rw [ag_mid ⟨by show (4 : Int) ≤ 4; omega, by show (4 : Int) ≤ 6; omega⟩, ag_low (by omega)]
            show (⟨halves T.holds, [], 0, false, 0⟩ : Tl.Ag) = ag0
            rw [hh]; rfl
          · have h : (4 : Int) = 2 := h; omega
          · have h : (4 : Int) = 3 := h; omega
          · have h : (4 : Int) = 5 := h; omega
  rw [if_neg c3]
  by_cases c4 : T.phase = 4
  · rw [if_pos c4]
    unfold looks; simp only
    split
    · rename_i hf
      obtain ⟨ver, hv1, hv2⟩ := freshB_two hf
      refine quiet _ ?_ ⟨F.seen, F.reads, fun h => ?_, fun h => ?_, fun h => ⟨ver, hv1, hv2⟩, F.holds, fun h => absurd (show (5 : Int) = 7 from h) (by omega)⟩
      · rw [ag_mid ⟨by show (4 : Int) ≤ 5; omega, by show (5 : Int) ≤ 6; omega⟩, ag_mid (by omega)]
      · have h : (5 : Int) = 2 := h; omega
      · have h : (5 : Int) = 3 := h; omega
    · refine quiet _ ?_ ?_
      · rw [ag_up ⟨by show (4 : Int) ≤ 5; omega, by show (5 : Int) ≤ 8; omega⟩ (by omega), ag_mid (by omega)]
      · refine F.up ?_ ?_ ?_ 2 <;> rfl
  rw [if_neg c4]
  by_cases c5 : T.phase = 5
  · rw [if_pos c5]
    have P := wf.part (.inr c5)
    obtain ⟨ver, hv1, hv2⟩ := F.p5 c5
    obtain ⟨k, hk⟩ : ∃ k, T.locks.getD T.holds.length 0 = k := ⟨_, rfl⟩
    have kin : k ∈ T.locks := by rw [← hk, List.getD_eq_getElem?_getD, List.getElem?_eq_getElem P]; exact List.getElem_mem P
    have H := wf.held (by omega)
    have k3 : 3 ≤ k ∧ k < 3 + E.stripes := locks_in G (wr_in G H.2.2.2) k (by rw [← H.1]; exact kin)
    have hink : inn s.W k = true := inn_len hlen (by omega) (by omega)
    unfold grabs; simp only
    rw [hk]
    by_cases hc : ld s.W k = T.was
    · rw [if_pos ⟨hc, hink⟩]
      have hv : heldW T.owner = 2 * (i : Int) + 1 := by unfold heldW; rw [own, if_neg (by omega)]
      rw [hv]
      simp only
      have t : Tl.Tr (tlE E lo μ) i s (s.grab i k ver) := .grab k ver k3.1 k3.2 (by rw [hc, hv1]) (by rw [ha, ag_mid (by omega)])
      refine ⟨_, .one t, rfl, ?_, ?_, fun _ => .inl rfl⟩
      · show Tl.upd _ _ _ _ = _
        rw [Tl.upd_at, ha, ag_mid (by omega), ag_mid ⟨by show 4 ≤ (if _ then (6 : Int) else 4); split <;> omega, by show (if _ then (6 : Int) else 4) ≤ 6; split <;> omega⟩]
        show (⟨halves T.holds ++ [(k, ver)], [], 0, false, 0⟩ : Tl.Ag) = ⟨halves (T.holds ++ [(k, T.was)]), [], 0, false, 0⟩
        rw [halves_append]
        have : halves [(k, T.was)] = [(k, ver)] := by unfold halves; simp; omega
        rw [this]
      · have f := F.trs FE (.one t) I
        have hq : ∀ x : Int, (x = 6 ∨ x = 4) → x ≠ 2 ∧ x ≠ 3 ∧ x ≠ 5 ∧ x ≠ 7 := fun x hx => by omega
        have tp : (if (T.holds ++ [(k, T.was)]).length = T.locks.length then (6 : Int) else 4) = 6 ∨ (if (T.holds ++ [(k, T.was)]).length = T.locks.length then (6 : Int) else 4) = 4 := by split <;> simp
        have q := hq _ tp
        refine ⟨f.seen, f.reads, fun h => absurd h q.1, fun h => absurd h q.2.1, fun h => absurd h q.2.2.1, fun p hp => ?_, fun h => absurd h q.2.2.2⟩
        rcases List.mem_append.1 hp with hp | hp
        · exact f.holds p hp
        · rw [List.mem_singleton.1 hp]
          show T.was % 2 = 0 ∧ T.was / 2 ≤ T.seen
          omega
    · rw [if_neg (fun hh => hc hh.1), if_neg hc]
      refine quiet _ ?_ ?_
      · rw [ag_up (by omega) (by omega), ag_mid (by omega)]
      · refine F.up ?_ ?_ ?_ 2 <;> rfl
  rw [if_neg c5]
  by_cases c6 : T.phase = 6
  · rw [if_pos c6]
    have eg : s.W.getD (Int.toNat 1) 0 = ld s.W 1 := by unfold ld; rw [hin1]; rfl
    unfold bumps; simp only
    by_cases hc : E.clock ≤ ld s.W 1
    · have eb : bumpE s.W 1 E.clock ≠ 0 := by unfold bumpE; rw [hin1, if_pos rfl, eg, if_pos hc]; omega
      have ew : bumpW s.W 1 E.clock = s.W := by unfold bumpW; rw [hin1, if_pos rfl, eg, if_pos hc]
      rw [if_pos eb, ew]
      refine quiet _ ?_ ?_
      · rw [ag_up (by show 4 ≤ T.phase ∧ T.phase ≤ 8; omega) (by omega), ag_mid (by omega)]
      · refine F.up ?_ ?_ ?_ 3 <;> rfl
    · have eb : bumpE s.W 1 E.clock = 0 := by unfold bumpE; rw [hin1, if_pos rfl, eg, if_neg hc]
      have ev : bumpV s.W 1 E.clock = ld s.W 1 + 1 := by unfold bumpV; rw [hin1, if_pos rfl, eg, if_neg hc]
      have ew : bumpW s.W 1 E.clock = st s.W 1 (ld s.W 1 + 1) := by unfold bumpW st; rw [hin1, if_pos rfl, eg, if_neg hc]; rfl
      rw [if_neg (by rw [eb]; simp), ev, ew]
      have Wr := wf.wrote (by omega)
      have Fu := wf.full (by omega)
      have H := wf.held (by omega)
      have e6 : s.ag i = ⟨halves T.holds, [], 0, false, 0⟩ := by rw [ha, ag_mid (by omega)]
      have hall : T.holds.map (·.1) = T.locks := by rw [H.2.2.1, Fu, List.take_length]
      have t : Tl.Tr (tlE E lo μ) i s (s.bump i T.writes) := .bump T.writes (by rw [e6]) (fun q hq => by
          have : lock E q.1 ∈ T.locks := by rw [H.1]; exact mem_locksOf.2 ⟨q, hq, rfl⟩
          rw [← hall] at this
          obtain ⟨p, hp1, hp2⟩ := List.mem_map.1 this
          refine ⟨p.2 / 2, ?_⟩
          rw [e6]
          exact List.mem_map.2 ⟨p, hp1, by show (p.1, p.2 / 2) = (lock E q.1, p.2 / 2); rw [hp2]⟩) (fun q hq => by have := Wr.2.2.1 q hq; exact .inr ⟨this.1, by omega⟩) Wr.2.1.nodup
      obtain ⟨ck, hck⟩ : ∃ ck, (locksOf E T.reads).filter (fun x => !T.locks.contains x) = ck := ⟨_, rfl⟩
      rw [hck]
      have b1 : (s.bump i T.writes).ag i = ⟨halves T.holds, T.writes, s.C + 1, false, 0⟩ := by show Tl.upd _ _ _ _ = _; rw [Tl.upd_at, e6]
      unfold next
      simp only
      by_cases hz : ck.length = 0
      · rw [if_pos hz]
        have t2 : Tl.Tr (tlE E lo μ) i (s.bump i T.writes) ((s.bump i T.writes).commit i) := .commit (by rw [b1]; simp only; omega) (by rw [b1])
        have tt : Tl.Trs (tlE E lo μ) i s ((s.bump i T.writes).commit i) := .cons t (.one t2)
        refine ⟨_, tt, rfl, ?_, (F.trs FE tt I).keep rfl rfl rfl ⟨by show ¬ ((7 : Int) + 1 = 2); omega, by show ¬ ((7 : Int) + 1 = 3); omega, by show ¬ ((7 : Int) + 1 = 5); omega, fun h => absurd (show (7 : Int) + 1 = 7 from h) (by omega)⟩, fun u => ?_⟩
        · show Tl.upd _ _ _ _ = _
          rw [Tl.upd_at, b1, ag_8 (by show (7 : Int) + 1 = 8; omega)]; rfl
        · rw [Tl.Sy.commit_wr, b1]
          simp only
          split
          · rename_i hu; exact .inr ⟨by show (7 : Int) + 1 = 8; omega, hu.symm⟩
          · exact .inl rfl
      · rw [if_neg hz]
        refine ⟨_, .one t, rfl, ?_, (F.trs FE (.one t) I).keep rfl rfl rfl ⟨by show ¬ ((7 : Int) = 2); omega, by show ¬ ((7 : Int) = 3); omega, by show ¬ ((7 : Int) = 5); omega, fun _ => by show 0 < ld s.W 1 + 1; omega⟩, fun _ => .inl rfl⟩
        rw [b1, ag_7 (by show (7 : Int) = 7; rfl)]; rfl
  rw [if_neg c6]
  by_cases c7 : T.phase = 7
  · rw [if_pos c7]
    have hwr := (wf.wrote (by omega)).1
    have e7 : s.ag i = ⟨halves T.holds, T.writes, T.stamp, false, 0⟩ := by rw [ha, ag_7 c7]
    have hst : 0 < (s.ag i).stamp := by rw [e7]; exact F.p7 c7
    unfold verifies; simp only
    split
    · split
      · unfold next; simp only
        rw [if_neg (by intro hh; exact hwr (List.length_eq_zero_iff.1 hh))]
        have t : Tl.Tr (tlE E lo μ) i s (s.commit i) := .commit hst (by rw [e7])
        refine ⟨_, .one t, rfl, ?_, (F.trs FE (.one t) I).keep rfl rfl rfl ⟨by show ¬ ((8 : Int) = 2); omega, by show ¬ ((8 : Int) = 3); omega, by show ¬ ((8 : Int) = 5); omega, fun h => absurd (show (8 : Int) = 7 from h) (by omega)⟩, fun u => ?_⟩
        · show Tl.upd _ _ _ _ = _
          rw [Tl.upd_at, e7, ag_8 (by show (8 : Int) = 8; rfl)]; rfl
        · rw [Tl.Sy.commit_wr, e7]
          simp only
          split
          · rename_i hu; exact .inr ⟨by trivial, hu.symm⟩
          · exact .inl rfl
      · refine quiet _ ?_ (F.keep rfl rfl rfl ⟨by show ¬ (T.phase = 2); omega, by show ¬ (T.phase = 3); omega, by show ¬ (T.phase = 5); omega, fun _ => F.p7 c7⟩)
        rw [ag_7 c7, ag_7 (by show T.phase = 7; exact c7)]
    · have t : Tl.Tr (tlE E lo μ) i s (s.reset i) := .reset (fun h => by rw [e7] at h; cases h)
      refine ⟨_, .one t, rfl, ?_, ?_, fun _ => .inl rfl⟩
      rotate_left
      · refine (F.trs FE (.one t) I).up ?_ ?_ ?_ 2 <;> rfl
      show Tl.upd _ _ _ _ = _
      rw [Tl.upd_at, e7, ag_up (by show 4 ≤ T.phase ∧ T.phase ≤ 8; omega) (by omega)]
  rw [if_neg c7]
  by_cases c8 : T.phase = 8
  · rw [if_pos c8]
    have C := wf.sto c8
    have Wr := wf.wrote (by omega)
    have Fu := wf.full (by omega)
    have H := wf.held (by omega)
    obtain ⟨p0, l0, hpl⟩ := List.exists_cons_of_ne_nil Wr.1
    have hpos : 0 < T.locks.length := by
      have : lock E p0.1 ∈ locksOf E T.writes := mem_locksOf.2 ⟨p0, by rw [hpl]; simp, rfl⟩
      rw [Wr.2.2.2]; exact List.length_pos_of_mem this
    have hk : T.at_.toNat < T.writes.length := by omega
    have e8 : s.ag i = ⟨halves T.holds, T.writes, T.stamp, true, T.at_.toNat⟩ := by rw [ha, ag_8 c8]
    obtain ⟨q, hq⟩ : ∃ q, T.writes.getD T.at_.toNat (0, 0) = q := ⟨_, rfl⟩
    have hq2 : T.writes[T.at_.toNat]? = some q := by rw [← hq, List.getD_eq_getElem?_getD, List.getElem?_eq_getElem hk]; rfl
    have t : Tl.Tr (tlE E lo μ) i s (s.store i q) := .store q (by rw [e8]) (by rw [e8]; exact hk) (by rw [e8]; exact hq2)
    have b1 : (s.store i q).ag i = ⟨halves T.holds, T.writes, T.stamp, true, T.at_.toNat + 1⟩ := by show Tl.upd _ _ _ _ = _; rw [Tl.upd_at, e8]
    unfold stores; simp only
    rw [hq]
    split
    · rename_i hle
      unfold next; simp only
      rw [if_neg (by omega)]
      refine ⟨_, .one t, rfl, ?_, (F.trs FE (.one t) I).keep rfl rfl rfl ⟨by show ¬ ((9 : Int) = 2); omega, by show ¬ ((9 : Int) = 3); omega, by show ¬ ((9 : Int) = 5); omega, fun h => absurd (show (9 : Int) = 7 from h) (by omega)⟩, fun _ => .inl rfl⟩
      have e : T.at_.toNat + 1 = T.writes.length := by omega
      rw [b1, e]
      refine Eq.symm (Eq.trans (ag_sure (by show (9 : Int) ≤ 9; omega) rfl Wr.1) ?_)
      unfold heldOf; rw [if_pos (by show (9 : Int) = 9; rfl)]; rfl
    · refine ⟨_, .one t, rfl, ?_, (F.trs FE (.one t) I).keep rfl rfl rfl ⟨by show ¬ (T.phase = 2); omega, by show ¬ (T.phase = 3); omega, by show ¬ (T.phase = 5); omega, fun h => absurd (show T.phase = 7 from h) (by omega)⟩, fun _ => .inl rfl⟩
      rw [b1, ag_8 (by show T.phase = 8; exact c8)]
      have e : (T.at_ + 1).toNat = T.at_.toNat + 1 := by omega
      show _ = (⟨halves T.holds, T.writes, T.stamp, true, (T.at_ + 1).toNat⟩ : Tl.Ag)
      rw [e]
  rw [if_neg c8]
  have c9 : T.phase = 9 := by omega
  have C := wf.rel c9
  have H := wf.held (by omega)
  have hk : T.at_.toNat < T.holds.length := by omega
  obtain ⟨x, hx⟩ : ∃ x, T.holds.getD T.at_.toNat (0, 0) = x := ⟨_, rfl⟩
  have hxe : T.holds[T.at_.toNat] = x := by rw [← hx, List.getD_eq_getElem?_getD, List.getElem?_eq_getElem hk]; rfl
  have eD : heldOf T = x :: T.holds.drop (T.at_.toNat + 1) := by unfold heldOf; rw [if_pos c9, List.drop_eq_getElem_cons hk, hxe]
  have hx2 := F.holds x (by rw [← hxe]; exact List.getElem_mem hk)
  have hld : (s.ag i).held = (x.1, x.2 / 2) :: halves (T.holds.drop (T.at_.toNat + 1)) := by
    rw [ha]; show halves (heldOf T) = _; rw [eD]; rfl
  have hvers : 2 * Tl.vers (s.ag i) (x.2 / 2) = (if T.how = 1 then freeW T.stamp else x.2) ∧ ((s.ag i).sure = true → (s.ag i).ws.length ≤ (s.ag i).at_) ∧ ((s.ag i).sure = false → (s.ag i).stamp = 0) := by
    by_cases h1 : T.how = 1
    · have Wr := wf.wrote (.inr ⟨c9, h1⟩)
      have e9 : s.ag i = ⟨halves (heldOf T), T.writes, T.stamp, true, T.writes.length⟩ := by rw [ha, ag_sure (by omega) h1 Wr.1]
      have hs := I.stC i
      rw [e9] at hs ⊢
      simp only at hs
      refine ⟨?_, fun _ => Nat.le_refl _, (fun h => by cases h)⟩
      rw [if_pos h1]
      show 2 * T.stamp = freeW T.stamp
      unfold freeW
      rw [if_neg (by omega)]
    · have e9 : s.ag i = ⟨halves (heldOf T), [], 0, false, 0⟩ := by rw [ha, ag_no (st_no (.inr (.inl ⟨by omega, h1⟩))) (by omega)]
      rw [e9]
      refine ⟨?_, (fun h => by cases h), fun _ => rfl⟩
      rw [if_neg h1]
      show 2 * (x.2 / 2) = _
      omega
  have t : Tl.Tr (tlE E lo μ) i s (s.release i x.1 (x.2 / 2) (halves (T.holds.drop (T.at_.toNat + 1)))) := .release _ _ _ hld hvers.2.1 hvers.2.2
  unfold releases; simp only
  rw [hx, ← hvers.1]
  have b1 : (s.release i x.1 (x.2 / 2) (halves (T.holds.drop (T.at_.toNat + 1)))).ag i = { agOf T with held := halves (T.holds.drop (T.at_.toNat + 1)) } := by
    show Tl.upd _ _ _ _ = _; rw [Tl.upd_at, ha]
  have key : ∀ T' : AT, 9 ≤ T'.phase → T'.how = T.how → T'.writes = T.writes → T'.stamp = T.stamp → heldOf T' = T.holds.drop (T.at_.toNat + 1) → agOf T' = { agOf T with held := halves (T.holds.drop (T.at_.toNat + 1)) } := fun T' h1 h2 h3 h4 h5 => by
    have e1 : stB T' = stB T := by
      unfold stB
      rw [h2, h3]
      congr 1
      apply propext
      constructor
      · rintro (a | a | a)
        · omega
        · omega
        · exact .inr (.inr ⟨by omega, a.2⟩)
      · rintro (a | a | a)
        · omega
        · omega
        · exact .inr (.inr ⟨by omega, a.2⟩)
    have e2 : suB T' = suB T := by
      unfold suB
      rw [h2, h3]
      congr 1
      apply propext
      constructor
      · rintro (a | a)
        · omega
        · exact .inr ⟨by omega, a.2⟩
      · rintro (a | a)
        · omega
        · exact .inr ⟨by omega, a.2⟩
    unfold agOf
    have h8 : ¬ T'.phase = 8 := by omega
    have h8' : ¬ T.phase = 8 := by omega
    rw [e1, e2, h3, h4, h5]
    simp only [h8, h8', if_false]
  have f := F.trs FE (.one t) I
  split
  · rename_i hle
    refine ⟨_, .one t, rfl, ?_, f.keep rfl rfl rfl ⟨by show ¬ ((10 : Int) = 2); omega, by show ¬ ((10 : Int) = 3); omega, by show ¬ ((10 : Int) = 5); omega, fun h => absurd (show (10 : Int) = 7 from h) (by omega)⟩, fun _ => .inl rfl⟩
    rw [b1]
    refine Eq.symm ?_
    refine key _ ?_ ?_ ?_ ?_ ?_
    · show (9 : Int) ≤ 10; omega
    · rfl
    · rfl
    · rfl
    have : T.holds.drop (T.at_.toNat + 1) = [] := List.drop_eq_nil_of_le (by omega)
    rw [this]; rfl
  · refine ⟨_, .one t, rfl, ?_, f.keep rfl rfl rfl ⟨by show ¬ (T.phase = 2); omega, by show ¬ (T.phase = 3); omega, by show ¬ (T.phase = 5); omega, fun h => absurd (show T.phase = 7 from h) (by omega)⟩, fun _ => .inl rfl⟩
    rw [b1]
    refine Eq.symm ?_
    refine key _ ?_ ?_ ?_ ?_ ?_
    · show 9 ≤ T.phase; omega
    · rfl
    · rfl
    · rfl
    unfold heldOf; rw [if_pos (by show T.phase = 9; exact c9)]
    show T.holds.drop (T.at_ + 1).toNat = _
    congr 1; omega

end Att
end Go.Proofs.YthojgahcpkdemaaGreat

/- attempts in one order: kept by each step -/
namespace Go.Proofs.YthojgahcpkdemaaGreat
open IMap_ VIn VPlain View
namespace Att

theorem su_step {E : Env} {lo : Int} {d : Nat} {T : AT} (wf : WF E lo d T) (hp : T.phase ≠ 10) (h : suB T = true) (W : List Int) : suB (step E T W).1 = true ∧ (step E T W).1.stamp = T.stamp := by
  unfold suB at h
  rw [decide_eq_true_eq] at h
  have hph := wf.ph
  have h8 : T.phase = 8 ∨ T.phase = 9 := by rcases h with h | h <;> omega
  unfold step
  rw [if_neg hp, if_neg (by omega), if_neg (by omega), if_neg (by omega), if_neg (by omega), if_neg (by omega), if_neg (by omega), if_neg (by omega), if_neg (by omega)]
  by_cases c8 : T.phase = 8
  · rw [if_pos c8]
    have Wr := wf.wrote (by omega)
    unfold stores; simp only
    split
    · refine ⟨?_, rfl⟩
      unfold suB next
      rw [decide_eq_true_eq]
      exact .inr ⟨by simp only; split <;> omega, rfl, Wr.1⟩
    · refine ⟨?_, rfl⟩
      unfold suB
      rw [decide_eq_true_eq]
      exact .inl c8
  · rw [if_neg c8]
    have h9 := h.resolve_left c8
    unfold releases; simp only
    split
    · refine ⟨?_, rfl⟩
      unfold suB
      rw [decide_eq_true_eq]
      exact .inr ⟨by show (9 : Int) ≤ 10; omega, h9.2⟩
    · refine ⟨?_, rfl⟩
      unfold suB
      rw [decide_eq_true_eq]
      exact .inr ⟨h9.1, h9.2⟩

def ags (n : Nat) (T : Nat → AT) (j : Nat) : Tl.Ag := if j < n then agOf (T j) else ag0
structure Ord (E : Tl.Env) (lo : Int) (n : Nat) (T : Nat → AT) (W : List Int) (wr : Int → M) : Prop where
  inv : Tl.Inv E ⟨W, ags n T, wr⟩
  fl : ∀ i, i < n → Fl E ⟨W, ags n T, wr⟩ (T i)
  from_ : ∀ u, wr u ≠ [] → ∃ i, i < n ∧ suB (T i) = true ∧ (T i).stamp = u
  wl : ∀ u, ∀ p ∈ wr u, lo ≤ p.1

def tlC (c0 : Lay.Cfg) (μ : Int → Int) : Tl.Env := tlE ⟨(Small_.small c0).stripes, (Small_.small c0).clock, (Of.places (Small_.small c0)).a11, fun _ => (0, [])⟩ (tbOf c0) μ
theorem tlC_eq (c0 : Lay.Cfg) (js : List (List Ins)) (i : Nat) (μ : Int → Int) : tlE (envOf c0 js i) (tbOf c0) μ = tlC c0 μ := rfl

theorem ord_step {c0 : Lay.Cfg} {js : List (List Ins)} {μ : Int → Int} {T : Nat → AT} {W : List Int} {wr : Int → M} (hL : Lk (Small_.small c0).stripes (Small_.small c0).clock (tbOf c0) js.length T W) (hG : Grp c0 js T W) (hn : js.length ≤ 64) (hck : (Small_.small c0).clock ≤ 1099511627776)
    (h : Ord (tlC c0 μ) (tbOf c0) js.length T W wr) {i : Nat} (hi : i < js.length) (hp : (T i).phase ≠ 10) :
    ∃ wr', Ord (tlC c0 μ) (tbOf c0) js.length (upd T i (step (envOf c0 js i) (T i) W).1) (step (envOf c0 js i) (T i) W).2 wr' := by
  have G := good_of c0 js i
  have FE : (tlC c0 μ).Fine := tlE_fine G μ
  have hO := (hG.all i hi).1
  have ea : ags js.length T i = agOf (T i) := if_pos hi
  obtain ⟨s', t, eW, eag, F', hwr⟩ := att_tr (μ := μ) (s := ⟨W, ags js.length T, wr⟩) (i := i) G h.inv hO.wf (hL.low i hi) (hL.own i hi) (by omega) hck (Int.le_trans hL.clk.2 hck) ea (h.fl i hi) hp
  have R := t.rel FE h.inv
  have I := t.inv FE h.inv
  have ags' : s'.ag = ags js.length (upd T i (step (envOf c0 js i) (T i) W).1) := by
    funext j
    by_cases e : j = i
    · subst e
      rw [eag]; unfold ags upd
      rw [if_pos hi, if_pos rfl]
    · rw [R.others j e]
      unfold ags upd
      rw [if_neg e]
  have es : s' = ⟨(step (envOf c0 js i) (T i) W).2, ags js.length (upd T i (step (envOf c0 js i) (T i) W).1), s'.wr⟩ := by
    rw [← ags', ← eW]
  have FJ : ∀ j, j < js.length → Fl (tlC c0 μ) s' (upd T i (step (envOf c0 js i) (T i) W).1 j) := fun j hj => by
    unfold upd
    by_cases e : j = i
    · rw [if_pos e]; exact F'
    · rw [if_neg e]; exact (h.fl j hj).trs FE t h.inv
  have FR : ∀ u, s'.wr u ≠ [] → ∃ k, k < js.length ∧ suB (upd T i (step (envOf c0 js i) (T i) W).1 k) = true ∧ (upd T i (step (envOf c0 js i) (T i) W).1 k).stamp = u := fun u hu => by
    rcases hwr u with e | e
    · rw [e] at hu
      obtain ⟨k, hk, h1, h2⟩ := h.from_ u hu
      refine ⟨k, hk, ?_⟩
      unfold upd
      by_cases ek : k = i
      · rw [if_pos ek]
        subst ek
        have q := su_step hO.wf hp h1 W
        rw [q.2]; exact ⟨q.1, h2⟩
      · rw [if_neg ek]; exact ⟨h1, h2⟩
    · refine ⟨i, hi, ?_⟩
      unfold upd
      rw [if_pos rfl]
      exact ⟨by unfold suB; rw [decide_eq_true_eq]; exact .inl e.1, e.2⟩
  have WL : ∀ u, ∀ p ∈ s'.wr u, tbOf c0 ≤ p.1 := fun u p hpu => by
    rcases hwr u with e | ⟨e1, e2⟩
    · rw [e] at hpu; exact h.wl u p hpu
    · have q := I.sure i (by rw [eag, ag_8 e1])
      rw [eag, ag_8 e1] at q
      have q2 : s'.wr (step (envOf c0 js i) (T i) W).1.stamp = (step (envOf c0 js i) (T i) W).1.writes := q.2
      rw [e2] at q2
      rw [q2] at hpu
      exact ((ok_step G hO.wf W hp).wf.wrote (.inl ⟨by rw [show (step (envOf c0 js i) (T i) W).1.phase = 8 from e1]; omega, by rw [show (step (envOf c0 js i) (T i) W).1.phase = 8 from e1]; omega⟩)).2.2.1 p hpu |>.1
  rw [es] at I FJ FR WL
  exact ⟨_, I, FJ, FR, WL⟩

theorem ord_new {c0 : Lay.Cfg} {js : List (List Ins)} {W : List Int} (hl : (W.length : Int) = (Of.places (Small_.small c0)).a11) (h1 : 0 ≤ ld W 1) (h2 : ∀ j, j ≠ 1 → ld W j = 0) :
    Ord (tlC c0 (ld W)) (tbOf c0) js.length (fun i => newT i) W (fun _ => []) := by
  have e0 : ∀ i : Nat, agOf (newT i) = ag0 := fun i => ag_low (by show (0 : Int) ≤ 3; omega)
  have ea : ∀ j, ags js.length (fun i => newT i) j = ag0 := fun j => by
    unfold ags; split
    · exact e0 j
    · rfl
  have F : (tlC c0 (ld W)).Fine := tlE_fine (good_of c0 [] 0) (ld W)
  refine ⟨⟨hl, h1, fun u hu => absurd rfl hu, fun u p hp => (List.not_mem_nil hp).elim, fun k k1 k2 => .inl ⟨0, ?_, fun j p hp => ?_, Int.le_refl _, h1, fun a ha hk u hu => rfl, fun a ha hk => ?_⟩, fun j => ?_, fun j p hp => ?_, fun j => ?_, fun j hj => ?_, fun j hj => ?_, fun j hj => ?_, fun j hj => ?_, fun a b ha hb => ?_, fun j hj => ?_, fun j hj => ?_⟩, fun i hi => ⟨⟨Int.le_refl _, h1⟩, fun p hp => (List.not_mem_nil hp).elim, fun h => absurd (show (0 : Int) = 2 from h) (by omega), fun h => absurd (show (0 : Int) = 3 from h) (by omega), fun h => absurd (show (0 : Int) = 5 from h) (by omega), fun p hp => (List.not_mem_nil hp).elim, fun h => absurd (show (0 : Int) = 7 from h) (by omega)⟩, fun u hu => absurd rfl hu, fun u p hp => (List.not_mem_nil hp).elim⟩
  · show ld W k = 2 * 0
    rw [h2 k (by omega)]; rfl
  · have hp : p ∈ (ags js.length (fun i => newT i) j).held := hp
    rw [ea] at hp; exact (List.not_mem_nil hp).elim
  · show ld W a = Tl.memI (fun _ => []) (ld W) (ld W 1) a
    exact (Tl.memI_up (wr := fun _ => []) (μ := ld W) (a := a) (u := 0) (Int.le_refl _) h1 (fun s _ _ => rfl)).symm
  · show ((ags js.length (fun i => newT i) j).held.map _).Nodup
    rw [ea]; exact List.nodup_nil
  · have hp : p ∈ (ags js.length (fun i => newT i) j).held := hp
    rw [ea] at hp; exact (List.not_mem_nil hp).elim
  · show 0 ≤ (ags js.length (fun i => newT i) j).stamp ∧ (ags js.length (fun i => newT i) j).stamp ≤ ld W 1
    rw [ea]; exact ⟨Int.le_refl _, h1⟩
  · have hj : 0 < (ags js.length (fun i => newT i) j).stamp := hj
    rw [ea] at hj; exact absurd (show (0 : Int) < 0 from hj) (by omega)
  · have hj : 0 < (ags js.length (fun i => newT i) j).stamp := hj
    rw [ea] at hj; exact absurd (show (0 : Int) < 0 from hj) (by omega)
  · have hj : (ags js.length (fun i => newT i) j).sure = true := hj
    rw [ea] at hj; cases hj
  · have hj : 0 < (ags js.length (fun i => newT i) j).stamp := hj
    rw [ea] at hj; exact absurd (show (0 : Int) < 0 from hj) (by omega)
  · have ha : 0 < (ags js.length (fun i => newT i) a).stamp := ha
    rw [ea] at ha; exact absurd (show (0 : Int) < 0 from ha) (by omega)
  · have hj : 0 < (ags js.length (fun i => newT i) j).stamp := hj
    rw [ea] at hj; exact absurd (show (0 : Int) < 0 from hj) (by omega)
  · have hj : 0 < (ags js.length (fun i => newT i) j).stamp := hj
    rw [ea] at hj; exact absurd (show (0 : Int) < 0 from hj) (by omega)

/-- what is asked of the words at the end -/
structure OEnd (tb wd : Int) (n : Nat) (T : Nat → AT) (W0 W : List Int) (m : Nat → Int → Int) : Prop where
  zero : ∀ a, m 0 a = ld W0 a
  none : ∀ (s : Nat) a, (∀ i, i < n → wroteB (T i) ≠ [] → (T i).stamp ≠ (s : Int) + 1) → m (s + 1) a = m s a
  some_ : ∀ (s : Nat) i a, i < n → wroteB (T i) ≠ [] → (T i).stamp = (s : Int) + 1 → m (s + 1) a = (Tl.at? (wroteB (T i)) a).getD (m s a)
  wrote : ∀ i, i < n → wroteB (T i) ≠ [] → 1 ≤ (T i).stamp ∧ ((wroteB (T i)).map (·.1)).Nodup ∧ ∀ p ∈ wroteB (T i), tb ≤ p.1 ∧ p.1 < wd
  uniq : ∀ i k, i < n → k < n → i ≠ k → wroteB (T i) ≠ [] → wroteB (T k) ≠ [] → (T i).stamp ≠ (T k).stamp
  reads : ∀ i, i < n → (0 ≤ (T i).seen ∧ (T i).seen ≤ ld W 1) ∧ ∀ p ∈ (T i).reads, (p.1 = 2 ∨ tb ≤ p.1 ∧ p.1 < wd) ∧ p.2 = m (T i).seen.toNat p.1
  last : ∀ a, tb ≤ a → a < wd → ld W a = m (ld W 1).toNat a
theorem ord_end {c0 : Lay.Cfg} {js : List (List Ins)} {T : Nat → AT} {W0 W : List Int} {wr : Int → M} (hL : Lk (Small_.small c0).stripes (Small_.small c0).clock (tbOf c0) js.length T W) (hG : ∀ i, i < js.length → Okk (envOf c0 js i) (tbOf c0) 6 (T i) W)
    (h : Ord (tlC c0 (ld W0)) (tbOf c0) js.length T W wr) (ho : ∀ i, i < js.length → (T i).phase = 10) :
    OEnd (tbOf c0) (Of.places (Small_.small c0)).a11 js.length T W0 W (Tl.mem wr (ld W0)) := by
  have G0 := good_of c0 js 0
  have FE : (tlC c0 (ld W0)).Fine := tlE_fine G0 (ld W0)
  have I := h.inv
  have su : ∀ i, i < js.length → wroteB (T i) ≠ [] → suB (T i) = true ∧ wroteB (T i) = (T i).writes ∧ (T i).how = 1 := fun i hi hw => by
    have hp := ho i hi
    unfold wroteB at hw ⊢
    split at hw
    · rename_i hs
      rw [if_pos hs]
      unfold sureB at hs
      rw [hp] at hs
      have h1 : (T i).how = 1 := by simpa using hs
      exact ⟨by unfold suB; rw [decide_eq_true_eq]; exact .inr ⟨by omega, h1, hw⟩, rfl, h1⟩
    · exact absurd rfl hw
  have su2 : ∀ i, i < js.length → suB (T i) = true → wroteB (T i) = (T i).writes ∧ wroteB (T i) ≠ [] := fun i hi hs => by
    have hp := ho i hi
    unfold suB at hs
    rw [decide_eq_true_eq] at hs
    rcases hs with hs | hs
    · omega
    · have : sureB (T i) = true := by unfold sureB; rw [hs.2.1]; simp
      unfold wroteB
      rw [if_pos this]; exact ⟨rfl, hs.2.2⟩
  have ea : ∀ i, i < js.length → ags js.length T i = agOf (T i) := fun i hi => if_pos hi
  have IS : ∀ i, i < js.length → wroteB (T i) ≠ [] → 0 < (T i).stamp ∧ wr (T i).stamp = wroteB (T i) := fun i hi hw => by
    obtain ⟨q1, q2, q3⟩ := su i hi hw
    have e : ags js.length T i = ⟨halves (heldOf (T i)), (T i).writes, (T i).stamp, true, (T i).writes.length⟩ := by
      rw [ea i hi]; exact ag_sure (by rw [ho i hi]; omega) q3 (by rw [← q2]; exact hw)
    have q := I.sure i (by show (ags js.length T i).sure = true; rw [e])
    have q' : 0 < (ags js.length T i).stamp ∧ wr (ags js.length T i).stamp = (ags js.length T i).ws := q
    rw [e] at q'
    rw [q2]; exact q'
  refine ⟨fun a => rfl, fun s a hn => ?_, fun s i a hi hw hs => ?_, fun i hi hw => ?_, (lk_end hL ho).2.2, fun i hi => ⟨(h.fl i hi).seen, fun p hp => ⟨?_, ?_⟩⟩, fun a h1 h2 => ?_⟩
  · show (Tl.at? (wr ((s : Int) + 1)) a).getD (Tl.mem wr (ld W0) s a) = _
    have : wr ((s : Int) + 1) = [] := Classical.byContradiction fun hu => by
      obtain ⟨i, hi, q1, q2⟩ := h.from_ _ hu
      exact hn i hi (su2 i hi q1).2 q2
    rw [this]; rfl
  · show (Tl.at? (wr ((s : Int) + 1)) a).getD (Tl.mem wr (ld W0) s a) = _
    rw [← hs, (IS i hi hw).2]
  · obtain ⟨q1, q2, q3⟩ := su i hi hw
    have a1 := IS i hi hw
    have e : ags js.length T i = ⟨halves (heldOf (T i)), (T i).writes, (T i).stamp, true, (T i).writes.length⟩ := by
      rw [ea i hi]; exact ag_sure (by rw [ho i hi]; omega) q3 (by rw [← q2]; exact hw)
    refine ⟨by omega, ?_, fun p hp => ?_⟩
    · have q := I.wsN i (by show 0 < (ags js.length T i).stamp; rw [e]; exact a1.1)
      have q' : ((ags js.length T i).ws.map (·.1)).Nodup := q
      rw [e] at q'
      rw [q2]; exact q'
    · have hne : (T i).writes ≠ [] := by rw [← q2]; exact hw
      have q := I.wrD (T i).stamp p (by show p ∈ wr (T i).stamp; rw [a1.2]; exact hp)
      rcases q with q | q
      · exfalso
        have := h.wl (T i).stamp p (by rw [a1.2]; exact hp)
        have g3 := G0.lo3; have gs := G0.str
        omega
      · exact q
  · have wf := (hG i hi).wf
    have GF := G0.fits
    have eW : (envOf c0 js 0).words = (Of.places (Small_.small c0)).a11 := rfl
    rcases wf.reads with e | ⟨r, e, _, hr⟩
    · rw [e] at hp; exact (List.not_mem_nil hp).elim
    · rw [e] at hp
      rcases List.mem_cons.1 hp with rfl | hp
      · exact .inl rfl
      · have := hr p hp
        exact .inr ⟨this.1, by omega⟩
  · exact ((h.fl i hi).reads p hp).val
  · have hd : (tlC c0 (ld W0)).data a := .inr ⟨h1, h2⟩
    have kl := FE.lk a hd
    rcases I.lock _ kl.1 kl.2 with ⟨v, hf⟩ | ⟨i, v, hh⟩
    · exact hf.val a hd rfl
    · exfalso
      have hm : ((tlC c0 (ld W0)).lk a, v) ∈ (ags js.length T i).held := hh.has
      by_cases hi : i < js.length
      · rw [ea i hi] at hm
        have : heldOf (T i) = [] := by unfold heldOf; rw [if_neg (by rw [ho i hi]; omega), if_pos (.inl (ho i hi))]
        unfold agOf at hm
        rw [this] at hm; exact (List.not_mem_nil hm).elim
      · unfold ags at hm
        rw [if_neg hi] at hm; exact (List.not_mem_nil hm).elim

end Att
end Go.Proofs.YthojgahcpkdemaaGreat

/- words behind what was stored, stamp by stamp, in plain -/
namespace Go.Proofs.YthojgahcpkdemaaGreat
open IMap_ VIn VPlain View
namespace Att

def app (V : List Int) (l : M) : List Int := l.foldl (fun V p => V.set p.1.toNat p.2) V
theorem app_len : ∀ (l : M) (V : List Int), (app V l).length = V.length
  | [], V => rfl
  | p :: l, V => by show (app (V.set p.1.toNat p.2) l).length = _; rw [app_len l]; simp
theorem app_take (V : List Int) (l : M) {k : Nat} (hk : k < l.length) : (app V (l.take k)).set (l[k].1).toNat l[k].2 = app V (l.take (k + 1)) := by
  unfold app
  rw [← List.take_append_getElem hk, List.foldl_append]; rfl
theorem app_ld : ∀ {l : M} {V : List Int}, (l.map (·.1)).Nodup → (∀ p ∈ l, 0 ≤ p.1 ∧ p.1 < V.length) → ∀ a, ld (app V l) a = (Tl.at? l a).getD (ld V a)
  | [], V, _, _, a => rfl
  | p :: l, V, hn, hb, a => by
    rw [List.map_cons, List.nodup_cons] at hn
    have hp := hb p (by simp)
    show ld (app (V.set p.1.toNat p.2) l) a = _
    rw [app_ld hn.2 (fun q hq => by have := hb q (by simp [hq]); rw [List.length_set]; exact this), Tl.at_cons]
    have hin : inn V p.1 = true := by unfold inn; simpa using hp
    rw [ld_set p.2 hin]
    by_cases e : p.1 = a
    · rw [if_pos e, if_pos e.symm]
      have : Tl.at? l a = none := Tl.at_none.2 fun q hq e2 => hn.1 (List.mem_map.2 ⟨q, hq, by rw [e2, e]⟩)
      rw [this]; rfl
    · rw [if_neg e, if_neg (fun e2 => e e2.symm)]
def ap1 (T : Nat → AT) (s : Int) (V : List Int) (i : Nat) : List Int := if (T i).stamp = s ∧ wroteB (T i) ≠ [] then app V (wroteB (T i)) else V
def apN (T : Nat → AT) (s : Int) (V : List Int) : Nat → List Int
  | 0 => V
  | k + 1 => ap1 T s (apN T s V k) k
theorem ap1_len (T : Nat → AT) (s : Int) (V : List Int) (i : Nat) : (ap1 T s V i).length = V.length := by
  unfold ap1; split
  · exact app_len _ _
  · rfl
theorem apN_len (T : Nat → AT) (s : Int) (V : List Int) : ∀ k, (apN T s V k).length = V.length
  | 0 => rfl
  | k + 1 => by show (ap1 T s (apN T s V k) k).length = _; rw [ap1_len, apN_len T s V k]
theorem apN_none {T : Nat → AT} {s : Int} {V : List Int} : ∀ {k : Nat}, (∀ i, i < k → wroteB (T i) ≠ [] → (T i).stamp ≠ s) → apN T s V k = V
  | 0, _ => rfl
  | k + 1, h => by
    show ap1 T s (apN T s V k) k = V
    rw [apN_none fun i hi => h i (by omega)]
    unfold ap1; rw [if_neg]
    rintro ⟨h1, h2⟩
    exact h k (by omega) h2 h1
theorem apN_some {T : Nat → AT} {s : Int} {V : List Int} {n i : Nat} (hu : ∀ i k, i < n → k < n → i ≠ k → wroteB (T i) ≠ [] → wroteB (T k) ≠ [] → (T i).stamp ≠ (T k).stamp) (hw : wroteB (T i) ≠ []) (hs : (T i).stamp = s) : ∀ {k : Nat}, i < k → k ≤ n → apN T s V k = app V (wroteB (T i))
  | 0, h, _ => by omega
  | k + 1, h, hk => by
    show ap1 T s (apN T s V k) k = _
    by_cases e : k = i
    · subst e
      rw [apN_none fun j hj hwj hsj => hu j k (by omega) (by omega) (by omega) hwj hw (hsj.trans hs.symm)]
      unfold ap1; rw [if_pos ⟨hs, hw⟩]
    · rw [apN_some hu hw hs (by omega) (by omega)]
      unfold ap1; rw [if_neg]
      rintro ⟨h1, h2⟩
      exact hu k i (by omega) (by omega) e h2 hw (h1.trans hs.symm)

/-- words behind all stamps up to s -/
structure Vok (tb wd : Int) (m : Nat → Int → Int) (s : Nat) (V : List Int) : Prop where
  len : (V.length : Int) = wd
  val : ∀ a, (a = 2 ∨ tb ≤ a ∧ a < wd) → ld V a = m s a
/-- words ahead of a stamp -/
def Vpre (tb wd : Int) (W0 : List Int) (m : Nat → Int → Int) (s : Nat) (V : List Int) : Prop := (s = 0 ∧ V = W0) ∨ ∃ k, s = k + 1 ∧ Vok tb wd m k V
theorem OEnd.stamp {tb wd : Int} {n : Nat} {T : Nat → AT} {W0 W V : List Int} {m : Nat → Int → Int} (h : OEnd tb wd n T W0 W m) (h0 : (W0.length : Int) = wd) (htb : 0 ≤ tb) {s : Nat} (hV : Vpre tb wd W0 m s V) : Vok tb wd m s (apN T s V n) := by
  rcases hV with ⟨rfl, rfl⟩ | ⟨k, rfl, hV⟩
  · rw [apN_none fun i hi hw hs => by have := (h.wrote i hi hw).1; omega]
    exact ⟨h0, fun a _ => (h.zero a).symm⟩
  · by_cases hx : ∃ i, i < n ∧ wroteB (T i) ≠ [] ∧ (T i).stamp = (k : Int) + 1
    · obtain ⟨i, hi, hw, hs⟩ := hx
      have Wr := h.wrote i hi hw
      rw [apN_some h.uniq hw (s := ((k + 1 : Nat) : Int)) (by omega) hi (Nat.le_refl _)]
      refine ⟨by rw [app_len]; exact hV.len, fun a ha => ?_⟩
      rw [app_ld Wr.2.1 (fun p hp => by have := Wr.2.2 p hp; have := hV.len; omega), hV.val a ha, h.some_ k i a hi hw hs]
    · have hn : ∀ i, i < n → wroteB (T i) ≠ [] → (T i).stamp ≠ (k : Int) + 1 := fun i hi hw hs => hx ⟨i, hi, hw, hs⟩
      rw [apN_none (s := ((k + 1 : Nat) : Int)) fun i hi hw hs => hn i hi hw (by omega)]
      exact ⟨hV.len, fun a ha => by rw [hV.val a ha, h.none k a hn]⟩
theorem Vok.next {tb wd : Int} {W0 V : List Int} {m : Nat → Int → Int} {s : Nat} (h : Vok tb wd m s V) : Vpre tb wd W0 m (s + 1) V := .inr ⟨s, rfl, h⟩
/-- do pairs stand in words? -/
def standsB (V : List Int) (l : M) : Bool := l.all fun p => inn V p.1 && decide (ld V p.1 = p.2)
theorem OEnd.stands {tb wd : Int} {n : Nat} {T : Nat → AT} {W0 W V : List Int} {m : Nat → Int → Int} (h : OEnd tb wd n T W0 W m) (htb : 0 ≤ tb) (hwd : 2 < wd) {s : Nat} (hV : Vok tb wd m s V) {i : Nat} (hi : i < n) (hs : (T i).seen = s) : standsB V (T i).reads = true := by
  unfold standsB
  rw [List.all_eq_true]
  intro p hp
  obtain ⟨h1, h2⟩ := (h.reads i hi).2 p hp
  have hl := hV.len
  have hin : inn V p.1 = true := by
    unfold inn; rw [decide_eq_true_eq]
    rcases h1 with e | e <;> omega
  rw [hin, hV.val p.1 h1, h2, hs]; simp
theorem OEnd.final {tb wd : Int} {n : Nat} {T : Nat → AT} {W0 W V : List Int} {m : Nat → Int → Int} (h : OEnd tb wd n T W0 W m) (htb : 0 ≤ tb) (hW : (W.length : Int) = wd) (hV : Vok tb wd m (ld W 1).toNat V) : W.drop tb.toNat = V.drop tb.toNat := by
  have hl := hV.len
  refine List.ext_getElem (by simp only [List.length_drop]; omega) fun j h1 h2 => ?_
  rw [List.length_drop] at h1 h2
  have key : ∀ (U : List Int) (hU : (U.length : Int) = wd) (hj : j < U.length - tb.toNat), (U.drop tb.toNat)[j]'(by rw [List.length_drop]; exact hj) = ld U (tb + j) := fun U hU hj => by
    rw [List.getElem_drop]
    unfold ld inn
    rw [if_pos (by rw [decide_eq_true_eq]; omega)]
    have e : (tb + (j : Int)).toNat = tb.toNat + j := by omega
    rw [e, List.getD_eq_getElem?_getD, List.getElem?_eq_getElem (by omega)]; rfl
  rw [key W hW h1, key V hl h2, h.last _ (by omega) (by omega), hV.val _ (.inr (by omega))]

/-- what is kept of attempts in one order -/
def QOrd (c0 : Lay.Cfg) (n : Nat) (W0 : List Int) (T : Nat → AT) (W : List Int) : Prop := Lk (Small_.small c0).stripes (Small_.small c0).clock (tbOf c0) n T W ∧ ∃ wr, Ord (tlC c0 (ld W0)) (tbOf c0) n T W wr
theorem qord_keeps {c0 : Lay.Cfg} {js : List (List Ins)} {W0 : List Int} (hn : js.length ≤ 64) (hck : (Small_.small c0).clock ≤ 1099511627776) : Keeps c0 js (QOrd c0 js.length W0) := fun T W i hi hG hq hp => by
  obtain ⟨hL, wr, hO⟩ := hq
  exact ⟨lk_step hL hG hn hck hi hp, ord_step hL hG hn hck hO hi hp⟩
theorem qord_new {c0 : Lay.Cfg} {js : List (List Ins)} {W : List Int} (hl : (W.length : Int) = (Of.places (Small_.small c0)).a11) (h1 : 0 ≤ ld W 1 ∧ ld W 1 ≤ (Small_.small c0).clock) (h2 : ∀ j, j ≠ 1 → ld W j = 0) : QOrd c0 js.length W (fun i => newT i) W :=
  ⟨lk_new h1 h2, _, ord_new hl h1.1 h2⟩
theorem qord_end {c0 : Lay.Cfg} {js : List (List Ins)} {W0 W : List Int} {T : Nat → AT} (hq : QOrd c0 js.length W0 T W) (hG : ∀ i, i < js.length → Okk (envOf c0 js i) (tbOf c0) 6 (T i) W) (ho : ∀ i, i < js.length → (T i).phase = 10) :
    ∃ m, OEnd (tbOf c0) (Of.places (Small_.small c0)).a11 js.length T W0 W m := by
  obtain ⟨hL, wr, hO⟩ := hq
  exact ⟨_, ord_end hL hG hO ho⟩
end Att
end Go.Proofs.YthojgahcpkdemaaGreat

/- pairs that stand in words -/
namespace Go.Proofs.YthojgahcpkdemaaGreat
open Go.RowKit Go.Bas SorPlain Go.Sor IMap_ VIn VPlain View
namespace Att

/-- ints in a row -/
def IR (w : World) (b : Nat) (U : List Int) : Prop := w.heap[b]? = some (.cells (U.map (Value.int .i64)).toArray 3 (0, 0))
theorem IR.lt {w : World} {b : Nat} {U : List Int} (h : IR w b U) : b < w.heap.size := (Array.getElem?_eq_some_iff.1 h).1
theorem IR.get {w : World} {b : Nat} {U : List Int} (h : IR w b U) {j : Nat} (hj : j < U.length) : w.cell? ⟨b, j, none⟩ = some (.int .i64 (U.getD j 0)) := by
  rw [cell_of_row _ _ _ _ _ _ h, List.getD_eq_getElem?_getD]; simp [hj]
theorem IR.ld {w : World} {b : Nat} {U : List Int} (h : IR w b U) {x : Int} (hx : inn U x = true) : w.cell? ⟨b, x.toNat, none⟩ = some (.int .i64 (ld U x)) := by
  have h2 : 0 ≤ x ∧ x < U.length := by unfold inn at hx; simpa using hx
  rw [h.get (j := x.toNat) (by omega)]
  unfold Att.ld; rw [hx]; rfl
theorem IR.set {w : World} {b : Nat} {U : List Int} (h : IR w b U) (j : Nat) (x : Int) : w.setCell ⟨b, j, none⟩ (.int .i64 x) = w.setRow b ((U.set j x).map (Value.int .i64)).toArray := by
  rw [setCell_row h]; congr 1; simp
theorem IR.free {w : World} {b : Nat} {U : List Int} (h : IR w b U) (j : Nat) : w.frozen? ⟨b, j, none⟩ = false := row_frozen h j
theorem IR.now {w : World} {b : Nat} {U : List Int} (h : IR w b U) (V : List Int) : IR (w.setRow b (V.map (Value.int .i64)).toArray) b V := setRow_same h
theorem IR.keep {w w' : World} {b : Nat} {U : List Int} (h : IR w b U) (e : w'.heap[b]? = w.heap[b]?) : IR w' b U := by unfold IR; rw [e]; exact h
theorem IR.words {w : World} {b : Nat} {U : List Int} (h : IR w b U) (hm : U.length ≤ 1000000) : Words w w.heap.size (.slice (some ⟨b, 0, none⟩) U.length U.length) U := row_words hm h

set_option maxRecDepth 100000 in
set_option maxHeartbeats 4000000 in
theorem stands_true {w : World} {b : Nat} {V : List Int} {B : Nat} {sl : Value} {l : M} (hV : IR w b V) (hm : V.length ≤ 1000000) (hl : Pairs w B sl l) (hst : standsB V l = true) :
    Calls Tryz.prog 31 #[.slice (some ⟨b, 0, none⟩) V.length V.length, sl] w fun e w' => e = .returned (.bool true) ∧ ∃ m, w' = w.drewN m := by
  obtain ⟨A, c, rfl, hlm, -⟩ := id hl
  obtain ⟨n, hn⟩ : ∃ n, l.length = n := ⟨_, rfl⟩
  obtain ⟨vn, hvn⟩ : ∃ vn, V.length = vn := ⟨_, rfl⟩
  have HN := Lib.hid hn; have HVN := Lib.hid hvn
  rw [hn] at hlm hl ⊢
  rw [hvn] at hm ⊢
  have HL := Lib.hid hl; have HV := Lib.hid hV; have HST := Lib.hid hst
  have hlm : n ≤ 9223372036854775807 := hlm
  clear hl hV hst hn hvn
  go_enter Tryz.func31, Tryz.ntmps31
  go_upto_region 2 with fail
  go_loopw [5] (fun u5 wr => ∃ k : Nat, k ≤ n ∧ u5 = .int .i64 k ∧ ∃ m, Hid (wr = w.drewN m)) (fun u5 _ => n - (intOf u5).toNat)
  case atStart => exact ⟨0, by omega, rfl, 0, rfl⟩
  case round =>
    obtain ⟨k, hk, rfl, m, HW⟩ := hrel
    by_cases hlt : k < n
    · have hkl : k < l.length := by rw [HN.out]; exact hlt
      obtain ⟨pb, off, rfl, _, hr⟩ := (pair_row HL.out).2 k hkl
      have hmem : l[k] ∈ l := List.getElem_mem hkl
      have hs := HST.out
      unfold standsB at hs
      rw [List.all_eq_true] at hs
      have hs1 := hs _ hmem
      rw [Bool.and_eq_true, decide_eq_true_eq] at hs1
      obtain ⟨⟨x, y⟩, hxy⟩ : ∃ p, l[k] = p := ⟨_, rfl⟩
      rw [hxy] at hr hs1
      have cv := HV.out.ld hs1.1
      rw [hs1.2] at cv
      have hx : 0 ≤ x ∧ x < vn := by have h := hs1.1; unfold inn at h; rw [HVN.out] at h; simpa using h
      obtain ⟨z, rfl⟩ : ∃ z : Nat, x = z := ⟨x.toNat, by omega⟩
      rw [Int.toNat_natCast] at cv
      have c1 : wr.cell? ⟨pb, off + k * 2, none⟩ = some (.int .i64 z) := by rw [HW.out]; exact hr 0 _ rfl
      have c2 : wr.cell? ⟨pb, off + k * 2 + 1, none⟩ = some (.int .i64 y) := by rw [HW.out]; exact hr 1 _ rfl
      have c3 : wr.cell? ⟨b, z, none⟩ = some (.int .i64 y) := by rw [HW.out]; exact cv
      have hz : z < vn := by omega
      clear hr hs hs1 hmem cv hkl hxy hx
      go_wp2
      go_quiet (fail)
      go_wp2
      go_roundw
      case rel => exact ⟨k + 1, by omega, by go_num, m + nq, by rw [Hid, HW.out, World.drewN_drewN]⟩
      case measure => simp [intOf]; omega
    · obtain rfl : n = k := by omega
      go_wp2
      go_ret
      exact ⟨rfl, m, HW.out⟩
end Att
end Go.Proofs.YthojgahcpkdemaaGreat

/- what is at hand in memory while the order is looked through -/
namespace Go.Proofs.YthojgahcpkdemaaGreat
open Go.RowKit Go.Bas View VIn IMap_ VPlain Lay RefLay Of Small_
open Go.ChangeShapes Go.Sor
namespace Att

theorem L2.seen {Q : (Nat → AT) → List Int → Prop} {w0 wr : World} {base : Nat} {S K : Nat → Prop} {a g : Nat} {c0 : Cfg} {js : List (List Ins)} {bs : Nat → Nat} {v : Value} {B0 : Nat} {v3 : Value} {ss : List Int} {T : Nat → AT} {m : Nat} (h : L2 Q w0 wr base S K a g c0 js bs v B0 v3 ss T m) {i : Nat} (hi : i < js.length) :
    Calls Tryz.prog 30 #[.pointer (some ⟨bs i, 0, none⟩)] wr fun e w' => e = .returned (.int .i64 (T i).seen) ∧ Below wr.heap.size wr w' := by
  obtain ⟨W, c, h1, _⟩ := h.qw
  obtain ⟨X, I⟩ := h1.row hi
  exact seen_any I.row
theorem L2.wrote {Q : (Nat → AT) → List Int → Prop} {w0 wr : World} {base : Nat} {S K : Nat → Prop} {a g : Nat} {c0 : Cfg} {js : List (List Ins)} {bs : Nat → Nat} {v : Value} {B0 : Nat} {v3 : Value} {ss : List Int} {T : Nat → AT} {m : Nat} (h : L2 Q w0 wr base S K a g c0 js bs v B0 v3 ss T m) {i : Nat} (hi : i < js.length) :
    Calls Tryz.prog 24 #[.pointer (some ⟨bs i, 0, none⟩)] wr (CloneOut wr (wroteB (T i))) := by
  obtain ⟨W, c, h1, h2, _⟩ := h.qw
  obtain ⟨X, I⟩ := h1.row hi
  have := (h2.all i hi).2.2.1
  exact writes_any I (by omega)
theorem L2.reads {Q : (Nat → AT) → List Int → Prop} {w0 wr : World} {base : Nat} {S K : Nat → Prop} {a g : Nat} {c0 : Cfg} {js : List (List Ins)} {bs : Nat → Nat} {v : Value} {B0 : Nat} {v3 : Value} {ss : List Int} {T : Nat → AT} {m : Nat} (h : L2 Q w0 wr base S K a g c0 js bs v B0 v3 ss T m) {i : Nat} (hi : i < js.length) :
    Calls Tryz.prog 29 #[.pointer (some ⟨bs i, 0, none⟩)] wr (CloneOut wr (T i).reads) := by
  obtain ⟨W, c, h1, h2, _⟩ := h.qw
  obtain ⟨X, I⟩ := h1.row hi
  have := reads_len (h2.all i hi).1.wf
  exact reads_any I (by omega)

/-- attempts that are over, a row of words of the law's own, the layout's row -/
structure LO (w0 wr : World) (g0 base wb l a g : Nat) (S K : Nat → Prop) (lv : Array Value) (c0 : Cfg) (js : List (List Ins)) (bs : Nat → Nat) (p cap : Nat) (v3 : Value) (ss : List Int) (T : Nat → AT) (Wf : List Int) (V : List Int) : Prop where
  l2 : L2 (fun _ W' => W' = Wf) wr wr base S K a g c0 js bs (.slice (some ⟨p, 0, none⟩) js.length cap) g0 v3 ss T 200000
  ir : IR wr wb V
  bel : Below g0 w0 wr
  row : wr.heap[l]? = some (.cells lv 29 (0, 0))
  pos : (g0 ≤ wb ∧ wb < base ∧ wb ≠ a ∧ wb ≠ g) ∧ (g0 ≤ l ∧ l ≠ wb ∧ l ≠ a ∧ l ≠ g) ∧ g0 ≤ a ∧ g0 ≤ g
theorem LO.below {w0 wr w' : World} {g0 base wb l a g : Nat} {S K : Nat → Prop} {lv : Array Value} {c0 : Cfg} {js : List (List Ins)} {bs : Nat → Nat} {p cap : Nat} {v3 : Value} {ss : List Int} {T : Nat → AT} {Wf V : List Int} (h : LO w0 wr g0 base wb l a g S K lv c0 js bs p cap v3 ss T Wf V) (hb : Below wr.heap.size wr w') : LO w0 w' g0 base wb l a g S K lv c0 js bs p cap v3 ss T Wf V :=
  ⟨(h.l2.below hb).now, h.ir.keep (hb.block _ h.ir.lt), h.bel.trans (hb.mono (by have := h.ir.lt; have := h.pos; omega)), blk_below h.row hb, h.pos⟩
theorem LO.drew {w0 wr : World} {g0 base wb l a g : Nat} {S K : Nat → Prop} {lv : Array Value} {c0 : Cfg} {js : List (List Ins)} {bs : Nat → Nat} {p cap : Nat} {v3 : Value} {ss : List Int} {T : Nat → AT} {Wf V : List Int} (h : LO w0 wr g0 base wb l a g S K lv c0 js bs p cap v3 ss T Wf V) : LO w0 wr.drew g0 base wb l a g S K lv c0 js bs p cap v3 ss T Wf V :=
  h.below (show Below wr.heap.size wr wr.drew from (Below.refl _ _).drew)
theorem LO.drewN {w0 wr : World} {g0 base wb l a g : Nat} {S K : Nat → Prop} {lv : Array Value} {c0 : Cfg} {js : List (List Ins)} {bs : Nat → Nat} {p cap : Nat} {v3 : Value} {ss : List Int} {T : Nat → AT} {Wf V : List Int} (h : LO w0 wr g0 base wb l a g S K lv c0 js bs p cap v3 ss T Wf V) (m : Nat) : LO w0 (wr.drewN m) g0 base wb l a g S K lv c0 js bs p cap v3 ss T Wf V :=
  h.below (drewN_below _ _ _)
theorem LO.store {w0 wr : World} {g0 base wb l a g : Nat} {S K : Nat → Prop} {lv : Array Value} {c0 : Cfg} {js : List (List Ins)} {bs : Nat → Nat} {p cap : Nat} {v3 : Value} {ss : List Int} {T : Nat → AT} {Wf V : List Int} (h : LO w0 wr g0 base wb l a g S K lv c0 js bs p cap v3 ss T Wf V) (V' : List Int) : LO w0 (wr.setRow wb (V'.map (Value.int .i64)).toArray) g0 base wb l a g S K lv c0 js bs p cap v3 ss T Wf V' := by
  have q := h.pos
  have hs : (wr.setRow wb (V'.map (Value.int .i64)).toArray).heap.size = wr.heap.size := by simp
  exact ⟨h.l2.poke q.1.1 q.1.2.1 q.1.2.2 hs.symm (fun k hk => setRow_other _ _ _ _ hk), h.ir.now V', setRow_below h.bel q.1.1 _, by rw [setRow_other _ _ _ _ q.2.1.2.1]; exact h.row, q⟩
theorem LO.cell {w0 wr : World} {g0 base wb l a g : Nat} {S K : Nat → Prop} {lv : Array Value} {c0 : Cfg} {js : List (List Ins)} {bs : Nat → Nat} {p cap : Nat} {v3 : Value} {ss : List Int} {T : Nat → AT} {Wf V : List Int} (h : LO w0 wr g0 base wb l a g S K lv c0 js bs p cap v3 ss T Wf V) {i : Nat} (hi : i < js.length) : wr.cell? ⟨p, i, none⟩ = some (.pointer (some ⟨bs i, 0, none⟩)) := h.l2.cell1 hi
theorem words_of_l2 {W : List Int} {w0 wr : World} {base : Nat} {S K : Nat → Prop} {a g : Nat} {c0 : Cfg} {js : List (List Ins)} {bs : Nat → Nat} {v : Value} {B0 : Nat} {v3 : Value} {ss : List Int} {T : Nat → AT} {m : Nat} (h : L2 (fun _ W' => W' = W) w0 wr base S K a g c0 js bs v B0 v3 ss T m) (hW : W.length ≤ 1000000) :
    Calls Tryz.prog 26 #[.pointer (some ⟨a, 0, none⟩)] wr fun e w' => ∃ b, e = .returned (.slice (some ⟨b, 0, none⟩) W.length W.length) ∧ wr.heap.size ≤ b ∧ w'.heap[b]? = some (.cells (W.map (Value.int .i64)).toArray 3 (0, 0)) ∧ Below wr.heap.size wr w' := by
  obtain ⟨W', c, h1, h2, rfl, _⟩ := h.qw
  exact words_told h1.ar hW
theorem ir_drop {w : World} {b n tb : Nat} {U : List Int} (h : IR w b U) (hn : U.length = n) (ht : tb ≤ n) (hm : n ≤ 1000000) : Words w w.heap.size (.slice (some ⟨b, tb, none⟩) (n - tb) (n - tb)) (U.drop tb) := by
  refine ⟨some ⟨b, tb, none⟩, n - tb, by rw [List.length_drop, hn], by rw [List.length_drop, hn]; unfold maxLen; omega, fun _ => ⟨b, tb, rfl, h.lt, fun i hi => ?_⟩⟩
  rw [List.length_drop] at hi
  rw [h.get (j := tb + i) (by omega), List.getElem_drop, List.getD_eq_getElem?_getD, List.getElem?_eq_getElem (by omega)]; rfl
end Att
end Go.Proofs.YthojgahcpkdemaaGreat
