/- Lemmas of this seat's proofs, several texts laid together. -/
import Derived.Test.YthojgahcpkdemaaGreatAfN
set_option linter.unusedVariables false
set_option linter.unusedSimpArgs false
/- locks and stamps of a group of attempts, in plain -/
namespace Go.Proofs.YthojgahcpkdemaaGreat
open IMap_ VIn
namespace Att

/-- what it holds -/
def heldOf (T : AT) : M := if T.phase = 9 then T.holds.drop T.at_.toNat else if T.phase = 10 ∨ T.phase ≤ 3 then [] else T.holds
/-- has it a stamp of its own? -/
def Stamped (T : AT) : Prop := T.phase = 7 ∨ T.phase = 8 ∨ (9 ≤ T.phase ∧ T.how = 1 ∧ T.writes ≠ [])
theorem freshB_mono {v a b : Int} (h : freshB v a = true) (hab : a ≤ b) : freshB v b = true := by
  unfold freshB at *; simp only [decide_eq_true_eq] at *; omega
theorem freshB_even {v a : Int} (h : freshB v a = true) : v % 2 = 0 := by
  unfold freshB at h; simp only [decide_eq_true_eq] at h; omega
theorem freshB_free {s a : Int} (h0 : 0 ≤ s) (h1 : s ≤ a) (h2 : s ≤ 1099511627776) : freshB (freeW s) a = true := by
  unfold freshB freeW; rw [if_neg (by omega)]; simp only [decide_eq_true_eq]; omega

structure Lk (S clock tb : Int) (n : Nat) (T : Nat → AT) (W : List Int) : Prop where
  flag : ld W 2 = 0
  clk : 0 ≤ ld W 1 ∧ ld W 1 ≤ clock
  free : ∀ j, 3 ≤ j → j < 3 + S → (∀ i, i < n → j ∉ (heldOf (T i)).map (·.1)) → freshB (ld W j) (ld W 1) = true
  lock : ∀ i, i < n → ∀ p ∈ heldOf (T i), ld W p.1 = 2 * (i : Int) + 1 ∧ freshB p.2 (ld W 1) = true
  seen : ∀ i, i < n → 1 ≤ (T i).phase → (T i).phase ≤ 9 → (T i).seen ≤ ld W 1
  was : ∀ i, i < n → (T i).phase = 5 → freshB (T i).was (ld W 1) = true
  low : ∀ i, i < n → (T i).phase ≤ 3 → (T i).writes = []
  stp : ∀ i, i < n → Stamped (T i) → 0 ≤ (T i).stamp ∧ (T i).stamp ≤ ld W 1
  uniq : ∀ i k, i < n → k < n → i ≠ k → Stamped (T i) → Stamped (T k) → (T i).stamp ≠ (T k).stamp
  own : ∀ i : Nat, i < n → (T i).owner = i

/-- a step that leaves the words, and what is held, as they were -/
theorem Lk.quiet {S clock tb : Int} {n : Nat} {T : Nat → AT} {W : List Int} (h : Lk S clock tb n T W) {i : Nat} {t : AT} (hh : heldOf t = heldOf (T i)) (hs : 1 ≤ t.phase → t.phase ≤ 9 → t.seen ≤ ld W 1) (hw : t.phase = 5 → freshB t.was (ld W 1) = true) (hl : t.phase ≤ 3 → t.writes = [])
    (hst : Stamped t → Stamped (T i) ∧ t.stamp = (T i).stamp) (ho : t.owner = (T i).owner) : Lk S clock tb n (upd T i t) W := by
  have U : ∀ j, upd T i t j = if j = i then t else T j := fun j => rfl
  refine ⟨h.flag, h.clk, fun j h1 h2 h3 => h.free j h1 h2 fun k hk => ?_, fun k hk p hp => ?_, fun k hk => ?_, fun k hk => ?_, fun k hk => ?_, fun k hk hS => ?_, fun k l hk hl' hkl hS1 hS2 => ?_, fun k hk => ?_⟩
  · have := h3 k hk; rw [U] at this; split at this
    · rename_i e; rw [e, ← hh]; exact this
    · exact this
  · rw [U] at hp; split at hp
    · rename_i e; rw [hh, ← e] at hp; exact h.lock k hk p hp
    · exact h.lock k hk p hp
  · rw [U]; split
    · exact hs
    · exact h.seen k hk
  · rw [U]; split
    · exact hw
    · exact h.was k hk
  · rw [U]; split
    · exact hl
    · exact h.low k hk
  · rw [U] at hS ⊢; split at hS
    · rename_i e; have q := hst hS; rw [if_pos e, q.2]; subst e; exact h.stp k hk q.1
    · rename_i e; rw [if_neg e]; exact h.stp k hk hS
  · rw [U] at hS1 hS2 ⊢; rw [U]
    by_cases e1 : k = i
    · rw [if_pos e1] at hS1 ⊢
      have e2 : l ≠ i := fun e => hkl (e1.trans e.symm)
      rw [if_neg e2] at hS2 ⊢
      have q := hst hS1
      rw [q.2]; subst e1; exact h.uniq k l hk hl' hkl q.1 hS2
    · rw [if_neg e1] at hS1 ⊢
      by_cases e2 : l = i
      · rw [if_pos e2] at hS2 ⊢
        have q := hst hS2
        rw [q.2]; subst e2; exact h.uniq k l hk hl' hkl hS1 q.1
      · rw [if_neg e2] at hS2 ⊢; exact h.uniq k l hk hl' hkl hS1 hS2
  · rw [U]; split
    · rename_i e; rw [ho, e, ← e]; exact h.own k hk
    · exact h.own k hk
/-- words elsewhere -/
theorem Lk.words {S clock tb : Int} {n : Nat} {T : Nat → AT} {W W' : List Int} (h : Lk S clock tb n T W) (h1 : ld W' 1 = ld W 1) (h2 : ld W' 2 = ld W 2) (h3 : ∀ j, 3 ≤ j → j < 3 + S → ld W' j = ld W j) (hin : ∀ i, i < n → ∀ p ∈ heldOf (T i), 3 ≤ p.1 ∧ p.1 < 3 + S) : Lk S clock tb n T W' :=
  ⟨h2.trans h.flag, by rw [h1]; exact h.clk, fun j a b c => by rw [h3 j a b, h1]; exact h.free j a b c, fun i hi p hp => by have q := hin i hi p hp; rw [h3 _ q.1 q.2, h1]; exact h.lock i hi p hp, fun i hi a b => by rw [h1]; exact h.seen i hi a b, fun i hi a => by rw [h1]; exact h.was i hi a, h.low, fun i hi a => by rw [h1]; exact h.stp i hi a, h.uniq, h.own⟩
theorem held_up {T : AT} {how : Int} (h : 4 ≤ T.phase ∧ T.phase ≤ 8) : heldOf (giveUp T how) = heldOf T := by
  have e : heldOf T = T.holds := by unfold heldOf; rw [if_neg (by omega), if_neg (by omega)]
  rw [e]
  unfold giveUp
  split
  · rename_i hz; rw [hz]; rfl
  · rfl
theorem up_phase (T : AT) (how : Int) : 9 ≤ (giveUp T how).phase := by unfold giveUp; split <;> (first | (show (9 : Int) ≤ 10; omega) | (show (9 : Int) ≤ 9; omega))
theorem up_how (T : AT) (how : Int) : (giveUp T how).how = how := by unfold giveUp; split <;> rfl
theorem up_seen (T : AT) (how : Int) : (giveUp T how).seen = T.seen ∧ (giveUp T how).owner = T.owner := by unfold giveUp; split <;> exact ⟨rfl, rfl⟩
/-- it gives up what it was about -/
theorem Lk.up {S clock tb : Int} {n : Nat} {T : Nat → AT} {W : List Int} (h : Lk S clock tb n T W) {i : Nat} (hi : i < n) {t : AT} {how : Int} (hp : 4 ≤ (T i).phase ∧ (T i).phase ≤ 8) (hp2 : 4 ≤ t.phase ∧ t.phase ≤ 8) (hh : t.holds = (T i).holds) (hs : t.seen = (T i).seen) (ho : t.owner = (T i).owner) (hw : how ≠ 1) : Lk S clock tb n (upd T i (giveUp t how)) W := by
  have P := up_phase t how
  refine h.quiet ?_ (fun _ _ => ?_) (fun h5 => by omega) (fun h3 => by omega) (fun hS => ?_) ((up_seen t how).2.trans ho)
  · rw [held_up hp2]; unfold heldOf; rw [if_neg (by omega), if_neg (by omega), if_neg (by omega), if_neg (by omega)]; exact hh
  · rw [(up_seen t how).1, hs]; exact h.seen i hi (by omega) (by omega)
  · rcases hS with hS | hS | ⟨_, hS, _⟩
    · omega
    · omega
    · rw [up_how] at hS; exact absurd hS hw
end Att
end Go.Proofs.YthojgahcpkdemaaGreat

/- locks and stamps of a group: each step keeps them -/
namespace Go.Proofs.YthojgahcpkdemaaGreat
open IMap_ VIn VPlain View
namespace Att

theorem lk_step {c0 : Lay.Cfg} {js : List (List Ins)} {T : Nat → AT} {W : List Int} (h : Lk (Small_.small c0).stripes (Small_.small c0).clock (tbOf c0) js.length T W) (hG : Grp c0 js T W) (hn : js.length ≤ 64) (hck : (Small_.small c0).clock ≤ 1099511627776) {i : Nat} (hi : i < js.length) (hp : (T i).phase ≠ 10) :
    Lk (Small_.small c0).stripes (Small_.small c0).clock (tbOf c0) js.length (upd T i (step (envOf c0 js i) (T i) W).1) (step (envOf c0 js i) (T i) W).2 := by
  have G := good_of c0 js i
  have hO := (hG.all i hi).1
  have wf := hO.wf
  have U : ∀ t j, upd T i t j = if j = i then t else T j := fun t j => rfl
  have eS : (envOf c0 js i).stripes = (Small_.small c0).stripes := rfl
  have eC : (envOf c0 js i).clock = (Small_.small c0).clock := rfl
  have G3 := G.lo3; have GS := G.str; have GF := G.fits
  rw [eS] at G3 GS
  have hin1 : inn W 1 = true := inn_len hO.len (by omega) (by omega)
  -- what anybody holds is a lock
  have HIN : ∀ k, k < js.length → ∀ p ∈ heldOf (T k), 3 ≤ p.1 ∧ p.1 < 3 + (Small_.small c0).stripes := fun k hk p hpp => by
    have wk := (hG.all k hk).1.wf
    have ph := wk.ph
    have key : 4 ≤ (T k).phase ∧ (T k).phase ≤ 9 → p ∈ (T k).holds → 3 ≤ p.1 ∧ p.1 < 3 + (Small_.small c0).stripes := fun hh hm => by
      have H := wk.held hh
      have h1 : p.1 ∈ (T k).locks := by
        have : p.1 ∈ (T k).holds.map (·.1) := List.mem_map_of_mem hm
        rw [H.2.2.1] at this; exact List.mem_of_mem_take this
      exact locks_in (good_of c0 js k) (wr_in (good_of c0 js k) H.2.2.2) _ (by rw [← H.1]; exact h1)
    unfold heldOf at hpp
    split at hpp
    · exact key (by omega) (List.mem_of_mem_drop hpp)
    · split at hpp
      · exact absurd hpp List.not_mem_nil
      · exact key (by omega) hpp
  have hph := wf.ph
  unfold step
  rw [if_neg hp]
  by_cases c0' : (T i).phase = 0
  · rw [if_pos c0']
    have hz := wf.zero c0'
    have e0 : heldOf (T i) = [] := by unfold heldOf; rw [if_neg (by omega), if_pos (by omega)]
    have lw := h.low i hi (by omega)
    unfold sees; simp only
    split
    · refine h.quiet (by rw [e0]; rfl) (fun _ h9 => ?_) (fun h5 => ?_) (fun h3 => ?_) (fun hS => ?_) rfl
      · have h9 : (10 : Int) ≤ 9 := h9; omega
      · have h5 : (10 : Int) = 5 := h5; omega
      · have h3 : (10 : Int) ≤ 3 := h3; omega
      · rcases hS with hS | hS | ⟨_, hS, _⟩
        · have hS : (10 : Int) = 7 := hS; omega
        · have hS : (10 : Int) = 8 := hS; omega
        · have hS : (3 : Int) = 1 := hS; omega
    · refine h.quiet (by rw [e0]; rfl) (fun _ _ => Int.le_refl _) (fun h5 => ?_) (fun _ => lw) (fun hS => ?_) rfl
      · have h5 : (1 : Int) = 5 := h5; omega
      · rcases hS with hS | hS | ⟨hS, _⟩
        · have hS : (1 : Int) = 7 := hS; omega
        · have hS : (1 : Int) = 8 := hS; omega
        · have hS : 9 ≤ (1 : Int) := hS; omega
  rw [if_neg c0']
  by_cases c1 : (T i).phase = 1
  · rw [if_pos c1]
    have e0 : heldOf (T i) = [] := by unfold heldOf; rw [if_neg (by omega), if_pos (by omega)]
    have lw := h.low i hi (by omega)
    have sn := h.seen i hi (by omega) (by omega)
    unfold locked; simp only
    split
    · refine h.quiet (by rw [e0]; rfl) (fun _ _ => sn) (fun h5 => ?_) (fun _ => lw) (fun hS => ?_) rfl
      · have h5 : (2 : Int) = 5 := h5; omega
      · rcases hS with hS | hS | ⟨hS, _⟩
        · have hS : (2 : Int) = 7 := hS; omega
        · have hS : (2 : Int) = 8 := hS; omega
        · have hS : 9 ≤ (2 : Int) := hS; omega
    · refine h.quiet (by rw [e0]; rfl) (fun _ _ => sn) (fun h5 => ?_) (fun h3 => ?_) (fun hS => ?_) rfl
      · have h5 : (10 : Int) = 5 := h5; omega
      · have h3 : (10 : Int) ≤ 3 := h3; omega
      · rcases hS with hS | hS | ⟨_, hS, _⟩
        · have hS : (10 : Int) = 7 := hS; omega
        · have hS : (10 : Int) = 8 := hS; omega
        · have hS : (2 : Int) = 1 := hS; omega
  rw [if_neg c1]
  by_cases c2 : (T i).phase = 2
  · rw [if_pos c2]
    have e0 : heldOf (T i) = [] := by unfold heldOf; rw [if_neg (by omega), if_pos (by omega)]
    have lw := h.low i hi (by omega)
    have sn := h.seen i hi (by omega) (by omega)
    refine h.quiet (by rw [e0]; rfl) (fun _ _ => sn) (fun h5 => ?_) (fun _ => lw) (fun hS => ?_) rfl
    · have h5 : (3 : Int) = 5 := h5; omega
    · rcases hS with hS | hS | ⟨hS, _⟩
      · have hS : (3 : Int) = 7 := hS; omega
      · have hS : (3 : Int) = 8 := hS; omega
      · have hS : 9 ≤ (3 : Int) := hS; omega
  rw [if_neg c2]
  by_cases c3 : (T i).phase = 3
  · rw [if_pos c3]
    have e0 : heldOf (T i) = [] := by unfold heldOf; rw [if_neg (by omega), if_pos (by omega)]
    have lw := h.low i hi (by omega)
    have sn := h.seen i hi (by omega) (by omega)
    have hh := (wf.needs (by omega)).2.1
    unfold confirms
    split
    · refine h.quiet (by rw [e0]; rfl) (fun _ _ => sn) (fun h5 => ?_) (fun h3 => ?_) (fun hS => ?_) rfl
      · have h5 : (10 : Int) = 5 := h5; omega
      · have h3 : (10 : Int) ≤ 3 := h3; omega
      · rcases hS with hS | hS | ⟨_, hS, _⟩
        · have hS : (10 : Int) = 7 := hS; omega
        · have hS : (10 : Int) = 8 := hS; omega
        · have hS : (2 : Int) = 1 := hS; omega
    · unfold goesOn; simp only
      split
      · refine h.quiet (by rw [e0]; rfl) (fun _ _ => sn) (fun h5 => ?_) (fun _ => lw) (fun hS => ?_) rfl
        · have h5 : (1 : Int) = 5 := h5; omega
        · rcases hS with hS | hS | ⟨hS, _⟩
          · have hS : (1 : Int) = 7 := hS; omega
          · have hS : (1 : Int) = 8 := hS; omega
          · have hS : 9 ≤ (1 : Int) := hS; omega
      · split
        · refine h.quiet (by rw [e0]; rfl) (fun _ _ => sn) (fun h5 => ?_) (fun h3 => ?_) (fun hS => ?_) rfl
          · have h5 : (10 : Int) = 5 := h5; omega
          · have h3 : (10 : Int) ≤ 3 := h3; omega
          · rcases hS with hS | hS | ⟨_, _, hS⟩
            · have hS : (10 : Int) = 7 := hS; omega
            · have hS : (10 : Int) = 8 := hS; omega
            · exact absurd lw hS
        · refine h.quiet ?_ (fun _ _ => sn) (fun h5 => ?_) (fun h3 => ?_) (fun hS => ?_) rfl
          · rw [e0]; unfold heldOf; rw [if_neg (by show ¬ ((4 : Int) = 9); omega), if_neg (by show ¬ ((4 : Int) = 10 ∨ (4 : Int) ≤ 3); omega)]; exact hh
          · have h5 : (4 : Int) = 5 := h5; omega
          · have h3 : (4 : Int) ≤ 3 := h3; omega
          · rcases hS with hS | hS | ⟨hS, _⟩
            · have hS : (4 : Int) = 7 := hS; omega
            · have hS : (4 : Int) = 8 := hS; omega
            · have hS : 9 ≤ (4 : Int) := hS; omega
  rw [if_neg c3]
  have e0 : (T i).phase ≤ 8 → heldOf (T i) = (T i).holds := fun h8 => by unfold heldOf; rw [if_neg (by omega), if_neg (by omega)]
  have sn := h.seen i hi (by omega) (by omega)
  by_cases c4 : (T i).phase = 4
  · rw [if_pos c4]
    unfold looks; simp only
    split
    · rename_i hf
      refine h.quiet ?_ (fun _ _ => sn) (fun _ => freshB_mono hf sn) (fun h3 => ?_) (fun hS => ?_) rfl
      · rw [e0 (by omega)]; unfold heldOf; rw [if_neg (by show ¬ ((5 : Int) = 9); omega), if_neg (by show ¬ ((5 : Int) = 10 ∨ (5 : Int) ≤ 3); omega)]
      · have h3 : (5 : Int) ≤ 3 := h3; omega
      · rcases hS with hS | hS | ⟨hS, _⟩
        · have hS : (5 : Int) = 7 := hS; omega
        · have hS : (5 : Int) = 8 := hS; omega
        · have hS : 9 ≤ (5 : Int) := hS; omega
    · exact h.up hi (by omega) ⟨by show (4 : Int) ≤ 5; omega, by show (5 : Int) ≤ 8; omega⟩ rfl rfl rfl (by omega)
  rw [if_neg c4]
  have HL : ∀ j ∈ (T i).locks, 3 ≤ j ∧ j < 3 + (Small_.small c0).stripes := fun j hj => by
    have H := wf.held (by omega)
    exact locks_in G (wr_in G H.2.2.2) j (by rw [← H.1]; exact hj)
  have nodd : ∀ k v, freshB v (ld W 1) = true → ld W k = v → ∀ l, l < js.length → k ∉ (heldOf (T l)).map (·.1) := fun k v hv hk l hl hm => by
    obtain ⟨p, hpm, rfl⟩ := List.mem_map.1 hm
    have := (h.lock l hl p hpm).1
    have := freshB_even hv
    omega
  by_cases c5 : (T i).phase = 5
  · rw [if_pos c5]
    have P := wf.part (.inr c5)
    have hwas := h.was i hi c5
    obtain ⟨k, hk⟩ : ∃ k, (T i).locks.getD (T i).holds.length 0 = k := ⟨_, rfl⟩
    have kin : k ∈ (T i).locks := by rw [← hk, List.getD_eq_getElem?_getD, List.getElem?_eq_getElem P]; exact List.getElem_mem P
    have k3 := HL k kin
    have hink : inn W k = true := inn_len hO.len (by omega) (by omega)
    unfold grabs; simp only
    rw [hk]
    by_cases hc : ld W k = (T i).was
    · rw [if_pos ⟨hc, hink⟩]
      have NO := nodd k _ hwas hc
      have own := h.own i hi
      have hv : heldW (T i).owner = 2 * (i : Int) + 1 := by unfold heldW; rw [own, if_neg (by omega)]
      rw [hv]
      obtain ⟨t, ht⟩ : ∃ t : AT, ({ { T i with holds := (T i).holds ++ [(k, (T i).was)] } with phase := if ((T i).holds ++ [(k, (T i).was)]).length = (T i).locks.length then 6 else 4 } : AT) = t := ⟨_, rfl⟩
      rw [ht]
      simp only
      have tp : t.phase = 6 ∨ t.phase = 4 := by rw [← ht]; simp only; split <;> simp
      have th : heldOf t = (T i).holds ++ [(k, (T i).was)] := by
        unfold heldOf; rw [if_neg (by omega), if_neg (by omega), ← ht]
      have ts : t.seen = (T i).seen := by rw [← ht]
      have tow : t.owner = (T i).owner := by rw [← ht]
      have nS : ¬ Stamped t := fun hS => by rcases hS with hS | hS | ⟨hS, _⟩ <;> omega
      have W1 : ld (st W k (2 * (i : Int) + 1)) 1 = ld W 1 := by rw [ld_st', if_neg (by omega)]
      have Wk : ∀ j, j ≠ k → ld (st W k (2 * (i : Int) + 1)) j = ld W j := fun j hj => by rw [ld_st', if_neg (fun hh => hj hh.2)]
      have Wkk : ld (st W k (2 * (i : Int) + 1)) k = 2 * (i : Int) + 1 := by rw [ld_st', if_pos ⟨hink, rfl⟩]
      refine ⟨by rw [Wk 2 (by omega)]; exact h.flag, by rw [W1]; exact h.clk, fun j h1 h2 h3 => ?_, fun l hl p hpm => ?_, fun l hl => ?_, fun l hl => ?_, fun l hl => ?_, fun l hl hS => ?_, fun l m hl hm hlm hS1 hS2 => ?_, fun l hl => ?_⟩
      · have hi3 := h3 i hi
        rw [U, if_pos rfl, th] at hi3
        have hjk : j ≠ k := fun e => hi3 (by rw [e]; simp)
        rw [Wk j hjk, W1]
        refine h.free j h1 h2 fun l hl => ?_
        by_cases e : l = i
        · rw [e, e0 (by omega)]; intro hm; exact hi3 (by rw [List.map_append]; exact List.mem_append_left _ hm)
        · have := h3 l hl; rw [U, if_neg e] at this; exact this
      · rw [U] at hpm
        rw [W1]
        by_cases e : l = i
        · rw [if_pos e, th] at hpm
          subst e
          rcases List.mem_append.1 hpm with hm | hm
          · have hne : p.1 ≠ k := fun e => NO l hl (by rw [← e, e0 (by omega)]; exact List.mem_map_of_mem hm)
            rw [Wk _ hne]
            exact h.lock l hl p (by rw [e0 (by omega)]; exact hm)
          · rw [List.mem_singleton.1 hm]
            exact ⟨Wkk, hwas⟩
        · rw [if_neg e] at hpm
          have hne : p.1 ≠ k := fun e => NO l hl (by rw [← e]; exact List.mem_map_of_mem hpm)
          rw [Wk _ hne]
          exact h.lock l hl p hpm
      · rw [U, W1]; split
        · rw [ts]; exact fun _ _ => sn
        · exact h.seen l hl
      · rw [U, W1]; split
        · intro h5; omega
        · exact h.was l hl
      · rw [U]; split
        · intro h3; omega
        · exact h.low l hl
      · rw [U] at hS ⊢; rw [W1]
        by_cases e : l = i
        · rw [if_pos e] at hS; exact absurd hS nS
        · rw [if_neg e] at hS ⊢; exact h.stp l hl hS
      · rw [U] at hS1 hS2 ⊢; rw [U]
        by_cases e : l = i
        · rw [if_pos e] at hS1; exact absurd hS1 nS
        · by_cases e' : m = i
          · rw [if_pos e'] at hS2; exact absurd hS2 nS
          · rw [if_neg e] at hS1 ⊢; rw [if_neg e'] at hS2 ⊢; exact h.uniq l m hl hm hlm hS1 hS2
      · rw [U]; split
        · rename_i e; rw [tow, e, ← e]; exact h.own l hl
        · exact h.own l hl
    · rw [if_neg (fun hh => hc hh.1), if_neg hc]
      exact h.up hi (by omega) (by omega) rfl rfl rfl (by omega)
  rw [if_neg c5]
  by_cases c6 : (T i).phase = 6
  · rw [if_pos c6]
    have eg : W.getD (Int.toNat 1) 0 = ld W 1 := by unfold ld; rw [hin1]; rfl
    unfold bumps; simp only
    rw [eC]
    by_cases hc : (Small_.small c0).clock ≤ ld W 1
    · have eb : bumpE W 1 (Small_.small c0).clock ≠ 0 := by unfold bumpE; rw [hin1, if_pos rfl, eg, if_pos hc]; omega
      have ew : bumpW W 1 (Small_.small c0).clock = W := by unfold bumpW; rw [hin1, if_pos rfl, eg, if_pos hc]
      rw [if_pos eb, ew]
      exact h.up hi (by omega) ⟨by show 4 ≤ (T i).phase; omega, by show (T i).phase ≤ 8; omega⟩ rfl rfl rfl (by omega)
    · have eb : bumpE W 1 (Small_.small c0).clock = 0 := by unfold bumpE; rw [hin1, if_pos rfl, eg, if_neg hc]
      have ev : bumpV W 1 (Small_.small c0).clock = ld W 1 + 1 := by unfold bumpV; rw [hin1, if_pos rfl, eg, if_neg hc]
      rw [if_neg (by rw [eb]; simp), ev]
      obtain ⟨t, ht⟩ : ∃ t : AT, next { { T i with stamp := ld W 1 + 1 } with checks := (locksOf (envOf c0 js i) (T i).reads).filter fun x => !(T i).locks.contains x } 7 ((locksOf (envOf c0 js i) (T i).reads).filter fun x => !(T i).locks.contains x).length = t := ⟨_, rfl⟩
      simp only
      rw [ht]
      have tp : t.phase = 7 ∨ t.phase = 8 := by rw [← ht]; unfold next; simp only; split <;> simp
      have th : heldOf t = heldOf (T i) := by
        rw [e0 (by omega)]; unfold heldOf; rw [if_neg (by omega), if_neg (by omega), ← ht]; rfl
      have ts : t.seen = (T i).seen := by rw [← ht]; rfl
      have tow : t.owner = (T i).owner := by rw [← ht]; rfl
      have tst : t.stamp = ld W 1 + 1 := by rw [← ht]; rfl
      have W1 : ld (bumpW W 1 (Small_.small c0).clock) 1 = ld W 1 + 1 := by rw [ld_bump, if_pos ⟨hin1, rfl, by omega⟩]
      have Wk : ∀ j, j ≠ 1 → ld (bumpW W 1 (Small_.small c0).clock) j = ld W j := fun j hj => by rw [ld_bump, if_neg (fun hh => hj hh.2.1)]
      have hcl := h.clk
      refine ⟨by rw [Wk 2 (by omega)]; exact h.flag, by rw [W1]; omega, fun j h1 h2 h3 => ?_, fun l hl p hpm => ?_, fun l hl => ?_, fun l hl => ?_, fun l hl => ?_, fun l hl hS => ?_, fun l m hl hm hlm hS1 hS2 => ?_, fun l hl => ?_⟩
      · rw [Wk j (by omega), W1]
        refine freshB_mono (h.free j h1 h2 fun l hl => ?_) (by omega)
        have := h3 l hl; rw [U] at this; split at this
        · rename_i e; rw [e, ← th]; exact this
        · exact this
      · rw [U] at hpm
        have hq : p ∈ heldOf (T l) := by
          split at hpm
          · rename_i e; rw [th, ← e] at hpm; exact hpm
          · exact hpm
        have q := h.lock l hl p hq
        have := HIN l hl p hq
        rw [Wk _ (by omega), W1]
        exact ⟨q.1, freshB_mono q.2 (by omega)⟩
      · rw [U, W1]; split
        · rw [ts]; intro _ _; omega
        · intro a b; have := h.seen l hl a b; omega
      · rw [U, W1]; split
        · intro h5; omega
        · intro a; exact freshB_mono (h.was l hl a) (by omega)
      · rw [U]; split
        · intro h3; omega
        · exact h.low l hl
      · rw [U] at hS ⊢; rw [W1]
        by_cases e : l = i
        · rw [if_pos e, tst]; omega
        · rw [if_neg e] at hS ⊢; have := h.stp l hl hS; omega
      · rw [U] at hS1 hS2 ⊢; rw [U]
        by_cases e : l = i
        · have e' : m ≠ i := fun e' => hlm (e.trans e'.symm)
          rw [if_pos e, if_neg e', tst]
          rw [if_neg e'] at hS2
          have := h.stp m hm hS2; omega
        · by_cases e' : m = i
          · rw [if_neg e, if_pos e', tst]
            rw [if_neg e] at hS1
            have := h.stp l hl hS1; omega
          · rw [if_neg e] at hS1 ⊢; rw [if_neg e'] at hS2 ⊢; exact h.uniq l m hl hm hlm hS1 hS2
      · rw [U]; split
        · rename_i e; rw [tow, e, ← e]; exact h.own l hl
        · exact h.own l hl
  rw [if_neg c6]
  by_cases c7 : (T i).phase = 7
  · rw [if_pos c7]
    have hwr := (wf.wrote (by omega)).1
    unfold verifies; simp only
    split
    · split
      · unfold next; simp only
        rw [if_neg (by intro hh; exact hwr (List.length_eq_zero_iff.1 hh))]
        refine h.quiet ?_ (fun _ _ => sn) (fun h5 => ?_) (fun h3 => ?_) (fun _ => ⟨.inl c7, rfl⟩) rfl
        · rw [e0 (by omega)]; unfold heldOf; rw [if_neg (by show ¬ ((8 : Int) = 9); omega), if_neg (by show ¬ ((8 : Int) = 10 ∨ (8 : Int) ≤ 3); omega)]
        · have h5 : (8 : Int) = 5 := h5; omega
        · have h3 : (8 : Int) ≤ 3 := h3; omega
      · refine h.quiet ?_ (fun _ _ => sn) (fun h5 => ?_) (fun h3 => ?_) (fun _ => ⟨.inl c7, rfl⟩) rfl
        · rw [e0 (by omega)]; unfold heldOf; rw [if_neg (by show ¬ ((T i).phase = 9); omega), if_neg (by show ¬ ((T i).phase = 10 ∨ (T i).phase ≤ 3); omega)]
        · have h5 : (T i).phase = 5 := h5; omega
        · have h3 : (T i).phase ≤ 3 := h3; omega
    · exact h.up hi (by omega) ⟨by show 4 ≤ (T i).phase; omega, by show (T i).phase ≤ 8; omega⟩ rfl rfl rfl (by omega)
  rw [if_neg c7]
  by_cases c8 : (T i).phase = 8
  · rw [if_pos c8]
    have C := wf.sto c8
    have Wr := wf.wrote (by omega)
    have Fu := wf.full (by omega)
    obtain ⟨p0, l0, hpl⟩ := List.exists_cons_of_ne_nil Wr.1
    have hpos : 0 < (T i).locks.length := by
      have : lock (envOf c0 js i) p0.1 ∈ locksOf (envOf c0 js i) (T i).writes := mem_locksOf.2 ⟨p0, by rw [hpl]; simp, rfl⟩
      rw [Wr.2.2.2]; exact List.length_pos_of_mem this
    have hk : (T i).at_.toNat < (T i).writes.length := by omega
    have pin : (T i).writes.getD (T i).at_.toNat (0, 0) ∈ (T i).writes := by rw [List.getD_eq_getElem?_getD, List.getElem?_eq_getElem hk]; exact List.getElem_mem hk
    have p1 := Wr.2.2.1 _ pin
    unfold stores; simp only
    have Wk : ∀ j, j < tbOf c0 → ld (st W ((T i).writes.getD (T i).at_.toNat (0, 0)).1 ((T i).writes.getD (T i).at_.toNat (0, 0)).2) j = ld W j := fun j hj => by rw [ld_st', if_neg (by omega)]
    have h' := h.words (W' := st W ((T i).writes.getD (T i).at_.toNat (0, 0)).1 ((T i).writes.getD (T i).at_.toNat (0, 0)).2) (Wk 1 (by omega)) (Wk 2 (by omega)) (fun j a b => Wk j (by omega)) HIN
    have sn' : (T i).seen ≤ ld (st W ((T i).writes.getD (T i).at_.toNat (0, 0)).1 ((T i).writes.getD (T i).at_.toNat (0, 0)).2) 1 := by rw [Wk 1 (by omega)]; exact sn
    split
    · unfold next; simp only
      rw [if_neg (by omega)]
      refine h'.quiet ?_ (fun _ _ => sn') (fun h5 => ?_) (fun h3 => ?_) (fun _ => ⟨.inr (.inl c8), rfl⟩) rfl
      · rw [e0 (by omega)]; unfold heldOf; rw [if_pos (by show (9 : Int) = 9; rfl)]; rfl
      · have h5 : (9 : Int) = 5 := h5; omega
      · have h3 : (9 : Int) ≤ 3 := h3; omega
    · refine h'.quiet ?_ (fun _ _ => sn') (fun h5 => ?_) (fun h3 => ?_) (fun _ => ⟨.inr (.inl c8), rfl⟩) rfl
      · rw [e0 (by omega)]; unfold heldOf; rw [if_neg (by show ¬ ((T i).phase = 9); omega), if_neg (by show ¬ ((T i).phase = 10 ∨ (T i).phase ≤ 3); omega)]
      · have h5 : (T i).phase = 5 := h5; omega
      · have h3 : (T i).phase ≤ 3 := h3; omega
  rw [if_neg c8]
  have c9 : (T i).phase = 9 := by omega
  have C := wf.rel c9
  have H := wf.held (by omega)
  have hk : (T i).at_.toNat < (T i).holds.length := by omega
  obtain ⟨x, hx⟩ : ∃ x, (T i).holds.getD (T i).at_.toNat (0, 0) = x := ⟨_, rfl⟩
  have hxe : (T i).holds[(T i).at_.toNat] = x := by rw [← hx, List.getD_eq_getElem?_getD, List.getElem?_eq_getElem hk]; rfl
  have eD : heldOf (T i) = x :: (T i).holds.drop ((T i).at_.toNat + 1) := by unfold heldOf; rw [if_pos c9, List.drop_eq_getElem_cons hk, hxe]
  have nd : ((heldOf (T i)).map (·.1)).Nodup := by
    have h1 : ((T i).holds.map (·.1)).Nodup := by
      rw [H.2.2.1, H.1]; exact (up_locksOf _ _).nodup.sublist (List.take_sublist _ _)
    have e : heldOf (T i) = (T i).holds.drop (T i).at_.toNat := by unfold heldOf; rw [if_pos c9]
    rw [e, List.map_drop]; exact h1.sublist (List.drop_sublist _ _)
  rw [eD, List.map_cons, List.nodup_cons] at nd
  have x3 := HIN i hi x (by rw [eD]; exact List.mem_cons_self)
  have xl := h.lock i hi x (by rw [eD]; exact List.mem_cons_self)
  have hinx : inn W x.1 = true := inn_len hO.len (by omega) (by omega)
  have hcl := h.clk
  obtain ⟨v, hv⟩ : ∃ v, (if (T i).how = 1 then freeW (T i).stamp else x.2) = v := ⟨_, rfl⟩
  have fv : freshB v (ld W 1) = true := by
    rw [← hv]; split
    · rename_i h1
      have := h.stp i hi (.inr (.inr ⟨by omega, h1, (wf.wrote (.inr ⟨c9, h1⟩)).1⟩))
      exact freshB_free this.1 this.2 (by omega)
    · exact xl.2
  unfold releases; simp only
  rw [hx, hv]
  obtain ⟨t, ht⟩ : ∃ t : AT, (if ((T i).holds.length : Int) ≤ (T i).at_ + 1 then fin { T i with at_ := (T i).at_ + 1 } (T i).how else { T i with at_ := (T i).at_ + 1 } : AT) = t := ⟨_, rfl⟩
  rw [ht]
  have tp : t.phase = 9 ∨ t.phase = 10 := by
    rw [← ht]; split
    · exact .inr rfl
    · exact .inl c9
  have th : heldOf t = (T i).holds.drop ((T i).at_.toNat + 1) := by
    rw [← ht]; split
    · rename_i hle
      have : (T i).holds.drop ((T i).at_.toNat + 1) = [] := List.drop_eq_nil_of_le (by omega)
      rw [this]; rfl
    · unfold heldOf; rw [if_pos c9]
      show (T i).holds.drop ((T i).at_ + 1).toNat = _
      congr 1; omega
  have tf : t.seen = (T i).seen ∧ t.owner = (T i).owner ∧ t.stamp = (T i).stamp ∧ t.how = (T i).how ∧ t.writes = (T i).writes := by
    rw [← ht]; split <;> exact ⟨rfl, rfl, rfl, rfl, rfl⟩
  have tS : Stamped t → Stamped (T i) := fun hS => by
    rcases hS with hS | hS | ⟨_, h1, h2⟩
    · omega
    · omega
    · exact .inr (.inr ⟨by omega, by rw [← tf.2.2.2.1]; exact h1, by rw [← tf.2.2.2.2]; exact h2⟩)
  have W1 : ld (st W x.1 v) 1 = ld W 1 := by rw [ld_st', if_neg (by omega)]
  have Wk : ∀ j, j ≠ x.1 → ld (st W x.1 v) j = ld W j := fun j hj => by rw [ld_st', if_neg (fun hh => hj hh.2)]
  have Wkk : ld (st W x.1 v) x.1 = v := by rw [ld_st', if_pos ⟨hinx, rfl⟩]
  refine ⟨by rw [Wk 2 (by omega)]; exact h.flag, by rw [W1]; exact h.clk, fun j h1 h2 h3 => ?_, fun l hl p hpm => ?_, fun l hl => ?_, fun l hl => ?_, fun l hl => ?_, fun l hl hS => ?_, fun l m hl hm hlm hS1 hS2 => ?_, fun l hl => ?_⟩
  · rw [W1]
    by_cases hj : j = x.1
    · rw [hj, Wkk]; exact fv
    · rw [Wk j hj]
      refine h.free j h1 h2 fun l hl => ?_
      have h3' := h3 l hl
      rw [U] at h3'
      by_cases e : l = i
      · rw [if_pos e, th] at h3'
        rw [e, eD, List.map_cons, List.mem_cons, not_or]; exact ⟨hj, h3'⟩
      · rw [if_neg e] at h3'; exact h3'
  · rw [U] at hpm
    rw [W1]
    by_cases e : l = i
    · rw [if_pos e, th] at hpm
      subst e
      have hne : p.1 ≠ x.1 := fun e => nd.1 (by rw [← e]; exact List.mem_map_of_mem hpm)
      rw [Wk _ hne]
      exact h.lock l hl p (by rw [eD]; exact List.mem_cons_of_mem _ hpm)
    · rw [if_neg e] at hpm
      have q := h.lock l hl p hpm
      have hne : p.1 ≠ x.1 := fun e' => by rw [e'] at q; have := q.1; have := xl.1; omega
      rw [Wk _ hne]; exact q
  · rw [U, W1]; split
    · rw [tf.1]; exact fun _ _ => sn
    · exact h.seen l hl
  · rw [U, W1]; split
    · intro h5; omega
    · exact h.was l hl
  · rw [U]; split
    · intro h3; omega
    · exact h.low l hl
  · rw [U] at hS ⊢; rw [W1]
    by_cases e : l = i
    · rw [if_pos e] at hS ⊢; rw [tf.2.2.1]; exact h.stp i hi (tS hS)
    · rw [if_neg e] at hS ⊢; exact h.stp l hl hS
  · rw [U] at hS1 hS2 ⊢; rw [U]
    by_cases e : l = i
    · have e' : m ≠ i := fun e' => hlm (e.trans e'.symm)
      rw [if_pos e] at hS1 ⊢
      rw [if_neg e'] at hS2 ⊢
      rw [tf.2.2.1]; exact h.uniq i m hi hm (fun e2 => e' e2.symm) (tS hS1) hS2
    · by_cases e' : m = i
      · rw [if_neg e] at hS1 ⊢; rw [if_pos e'] at hS2 ⊢
        rw [tf.2.2.1]; exact h.uniq l i hl hi e hS1 (tS hS2)
      · rw [if_neg e] at hS1 ⊢; rw [if_neg e'] at hS2 ⊢; exact h.uniq l m hl hm hlm hS1 hS2
  · rw [U]; split
    · rename_i e; rw [tf.2.1, e, ← e]; exact h.own l hl
    · exact h.own l hl

/-- at first -/
theorem lk_new {c0 : Lay.Cfg} {js : List (List Ins)} {W : List Int} (h1 : 0 ≤ ld W 1 ∧ ld W 1 ≤ (Small_.small c0).clock) (h2 : ∀ j, j ≠ 1 → ld W j = 0) : Lk (Small_.small c0).stripes (Small_.small c0).clock (tbOf c0) js.length (fun i => newT i) W := by
  have nS : ∀ i : Nat, ¬ Stamped (newT i) := fun i hS => by
    rcases hS with hS | hS | ⟨hS, _⟩
    · have hS : (0 : Int) = 7 := hS; omega
    · have hS : (0 : Int) = 8 := hS; omega
    · have hS : 9 ≤ (0 : Int) := hS; omega
  refine ⟨h2 2 (by omega), h1, fun j a b _ => by rw [h2 j (by omega)]; unfold freshB; simp; omega, fun i hi p hp => ?_, fun i hi a => ?_, fun i hi a => ?_, fun i hi _ => rfl, fun i hi hS => absurd hS (nS i), fun i k _ _ _ hS => absurd hS (nS i), fun i hi => rfl⟩
  · exact absurd hp List.not_mem_nil
  · have a : 1 ≤ (0 : Int) := a; omega
  · have a : (0 : Int) = 5 := a; omega
/-- when all are over -/
theorem lk_end {S clock tb : Int} {n : Nat} {T : Nat → AT} {W : List Int} (h : Lk S clock tb n T W) (ho : ∀ i, i < n → (T i).phase = 10) :
    (∀ j, 3 ≤ j → j < 3 + S → freshB (ld W j) (ld W 1) = true) ∧ ld W 2 = 0 ∧ ∀ i k, i < n → k < n → i ≠ k → wroteB (T i) ≠ [] → wroteB (T k) ≠ [] → (T i).stamp ≠ (T k).stamp := by
  have hn : ∀ i, i < n → heldOf (T i) = [] := fun i hi => by unfold heldOf; rw [if_neg (by rw [ho i hi]; omega), if_pos (.inl (ho i hi))]
  have hS : ∀ i, i < n → wroteB (T i) ≠ [] → Stamped (T i) := fun i hi hw => by
    have hp := ho i hi
    unfold wroteB at hw
    split at hw
    · rename_i hs
      unfold sureB at hs
      rw [hp] at hs
      have h1 : (T i).how = 1 := by simpa using hs
      exact .inr (.inr ⟨by omega, h1, hw⟩)
    · exact absurd rfl hw
  exact ⟨fun j a b => h.free j a b fun i hi hm => by rw [hn i hi] at hm; exact absurd hm List.not_mem_nil, h.flag, fun i k hi hk hik a b => h.uniq i k hi hk hik (hS i hi a) (hS k hk b)⟩
end Att
end Go.Proofs.YthojgahcpkdemaaGreat

/- what is asked of attempts and words at the end -/
namespace Go.Proofs.YthojgahcpkdemaaGreat
open Go.RowKit Go.Bas View VIn IMap_ VPlain Lay RefLay Of Small_
open Go.ChangeShapes Go.Sor
namespace Att

theorem L2.fix {Q : (Nat → AT) → List Int → Prop} {w0 wr : World} {base : Nat} {S K : Nat → Prop} {a g : Nat} {c0 : Cfg} {js : List (List Ins)} {bs : Nat → Nat} {v : Value} {B0 : Nat} {v3 : Value} {ss : List Int} {T : Nat → AT} {m : Nat} (h : L2 Q w0 wr base S K a g c0 js bs v B0 v3 ss T m) : ∃ W, Q T W ∧ (∀ i, i < js.length → Okk (envOf c0 js i) (tbOf c0) 6 (T i) W) ∧ WB W ∧ L2 (fun _ W' => W' = W) w0 wr base S K a g c0 js bs v B0 v3 ss T m := by
  obtain ⟨W, c, h1, h2, h3, h4⟩ := h.qw
  exact ⟨W, h3, fun i hi => (h2.all i hi).1, h2.wb, ⟨⟨W, c, h1, h2, rfl, h4⟩, h.pt, h.own, h.low, h.wd, h.hB, h.chg, h.hb, h.sb⟩⟩
theorem L2.stamp {Q : (Nat → AT) → List Int → Prop} {w0 wr : World} {base : Nat} {S K : Nat → Prop} {a g : Nat} {c0 : Cfg} {js : List (List Ins)} {bs : Nat → Nat} {v : Value} {B0 : Nat} {v3 : Value} {ss : List Int} {T : Nat → AT} {m : Nat} (h : L2 Q w0 wr base S K a g c0 js bs v B0 v3 ss T m) {i : Nat} (hi : i < js.length) :
    Calls Tryz.prog 23 #[.pointer (some ⟨bs i, 0, none⟩)] wr fun e w' => e = .returned (.int .i64 (T i).stamp) ∧ Below wr.heap.size wr w' := by
  obtain ⟨W, c, h1, _⟩ := h.qw
  obtain ⟨X, I⟩ := h1.row hi
  exact stamp_any I.row
theorem L2.phase {Q : (Nat → AT) → List Int → Prop} {w0 wr : World} {base : Nat} {S K : Nat → Prop} {a g : Nat} {c0 : Cfg} {js : List (List Ins)} {bs : Nat → Nat} {v : Value} {B0 : Nat} {v3 : Value} {ss : List Int} {T : Nat → AT} {m : Nat} (h : L2 Q w0 wr base S K a g c0 js bs v B0 v3 ss T m) {i : Nat} (hi : i < js.length) :
    Calls Tryz.prog 22 #[.pointer (some ⟨bs i, 0, none⟩)] wr fun e w' => e = .returned (.int .i64 (T i).phase) ∧ Below wr.heap.size wr w' := by
  obtain ⟨W, c, h1, _⟩ := h.qw
  obtain ⟨X, I⟩ := h1.row hi
  exact phase_any I.row
theorem L2.load {W : List Int} {w0 wr : World} {base : Nat} {S K : Nat → Prop} {a g : Nat} {c0 : Cfg} {js : List (List Ins)} {bs : Nat → Nat} {v : Value} {B0 : Nat} {v3 : Value} {ss : List Int} {T : Nat → AT} {m : Nat} (h : L2 (fun _ W' => W' = W) w0 wr base S K a g c0 js bs v B0 v3 ss T m) (hm : m ≤ 1000000) (j : Int) :
    Calls Tryz.prog 19 #[.pointer (some ⟨a, 0, none⟩), .int .i64 j] wr fun e w' => e = .returned (.tuple #[.int .i64 (ld W j), .int .i64 (errB W j)]) ∧ L2 (fun _ W' => W' = W) w0 w' base S K a g c0 js bs v B0 v3 ss T (m + 1) ∧ Chg (fun k => k = a ∨ k = g) wr w' := by
  obtain ⟨W', c, h1, h2, rfl, h4⟩ := h.qw
  refine (load_any h1.ar (by omega) j).mono ?_
  rintro e w' ⟨rfl, ha, hC⟩
  have kk : ∀ k, K k → w'.heap[k]? = wr.heap[k]? := fun k hk => by have q := h1.kept k hk; exact hC.block k q.1 (fun hh => hh.elim q.2.1 q.2.2)
  refine ⟨rfl, ⟨⟨W', _, h1.arena ha hC, h2, rfl, ?_⟩, h.pt.kept fun q hq => kk q (h.own q hq), h.own, h.low, h.wd.keep fun k hk _ => kk k (h.low k (by have := h.hB; omega) (by have := h.hB; omega) (by have := h.hB; omega)), h.hB, h.chg.trans (hC.mono fun k _ hk => hk.elim .inl fun e => .inr (.inl e)), Nat.le_trans h.hb hC.size, h.sb⟩, hC⟩
  unfold cnt; split <;> omega
theorem lk_end' {c0 : Cfg} {sp : Nat} (hsp : (small c0).stripes = sp) {n : Nat} {T : Nat → AT} {W : List Int} (h : Lk (small c0).stripes (small c0).clock (tbOf c0) n T W) (ho : ∀ i, i < n → (T i).phase = 10) :
    (∀ q : Nat, q < sp → freshB (ld W (3 + (q : Int))) (ld W 1) = true) ∧ ld W 2 = 0 ∧ ∀ i k, i < n → k < n → i ≠ k → wroteB (T i) ≠ [] → wroteB (T k) ≠ [] → (T i).stamp ≠ (T k).stamp := by
  have q := lk_end h ho
  rw [hsp] at q
  exact ⟨fun k hk => q.1 _ (by omega) (by omega), q.2⟩
/-- begun anew from the world that is -/
theorem L2.now {Q : (Nat → AT) → List Int → Prop} {w0 wr : World} {base : Nat} {S K : Nat → Prop} {a g : Nat} {c0 : Cfg} {js : List (List Ins)} {bs : Nat → Nat} {v : Value} {B0 : Nat} {v3 : Value} {ss : List Int} {T : Nat → AT} {m : Nat} (h : L2 Q w0 wr base S K a g c0 js bs v B0 v3 ss T m) : L2 Q wr wr base S K a g c0 js bs v B0 v3 ss T m :=
  ⟨h.qw, h.pt, h.own, h.low, h.wd, h.hB, Chg.refl _ _, h.hb, h.sb⟩
/-- a block changes that is none of theirs -/
theorem L2.poke {Q : (Nat → AT) → List Int → Prop} {w0 wr w' : World} {base : Nat} {S K : Nat → Prop} {a g : Nat} {c0 : Cfg} {js : List (List Ins)} {bs : Nat → Nat} {v : Value} {B0 : Nat} {v3 : Value} {ss : List Int} {T : Nat → AT} {m wb : Nat} (h : L2 Q w0 wr base S K a g c0 js bs v B0 v3 ss T m) (h1 : B0 ≤ wb) (h2 : wb < base) (hab : wb ≠ a ∧ wb ≠ g)
    (hs : wr.heap.size = w'.heap.size) (hk : ∀ k, k ≠ wb → w'.heap[k]? = wr.heap[k]?) : L2 Q w' w' base S K a g c0 js bs v B0 v3 ss T m := by
  obtain ⟨W, c, m1, m2⟩ := h.qw
  have kw : K wb := h.low wb h2 hab.1 hab.2
  have sw : ¬ S wb := fun hS => by have := h.sb wb hS; omega
  refine ⟨⟨W, c, m1.after (by omega) (fun k _ hkk => hk k fun e => ?_) (fun k hK => .inl hK) m1.sub, m2⟩, h.pt.kept fun q hq => hk q fun e => ?_, h.own, h.low, h.wd.keep fun k hlt _ => hk k (by omega), h.hB, Chg.refl _ _, by rw [← hs]; exact h.hb, h.sb⟩
  · subst e; rcases hkk with hkk | hkk
    · exact hkk kw
    · exact sw hkk
  · subst e; have := h.pt.block hq; omega
end Att
end Go.Proofs.YthojgahcpkdemaaGreat
