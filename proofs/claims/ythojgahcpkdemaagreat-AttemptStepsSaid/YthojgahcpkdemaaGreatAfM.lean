/- Lemmas of this seat's proofs, several texts laid together. -/
import Derived.Test.YthojgahcpkdemaaGreatAfH
import Derived.Test.YthojgahcpkdemaaGreatAfJ
import Derived.Test.YthojgahcpkdemaaGreatAfI
import Derived.Test.YthojgahcpkdemaaGreatAfK
import Derived.Test.YthojgahcpkdemaaGreatWLast
import Derived.ProofKit
import Derived.OpenShut
import Derived.ShutString
import Derived.ChangeOld
import Derived.Below
set_option linter.unusedVariables false
set_option linter.unusedSimpArgs false
/- an attempt alone, in plain -/
namespace Go.Proofs.YthojgahcpkdemaaGreat
open IMap_ VIn
namespace Att

theorem st_len' (W : List Int) (k x : Int) : (st W k x).length = W.length := len_st W k x
/-- each step's access is to a word that is there -/
theorem acc_in {E : Env} {lo : Int} {d : Nat} (G : Good E lo d) {T : AT} {W : List Int} (h : WF E lo d T) (hl : (W.length : Int) = E.words) (hp : T.phase ≠ 10) : inn W (acc E T) = true := by
  have G3 := G.lo3; have GS := G.str; have GF := G.fits
  have hph := h.ph
  have rng : ∀ a, 0 ≤ a → a < E.words → inn W a = true := fun a h0 h1 => inn_len hl h0 h1
  have lk : ∀ a, 0 ≤ a → a < E.words → inn W (lock E a) = true := fun a h0 h1 => by have := lock_in G h0 h1; exact rng _ (by omega) (by omega)
  have na : T.phase = 1 ∨ T.phase = 2 ∨ T.phase = 3 → 0 ≤ T.na ∧ T.na < E.words := fun hh => by
    rcases (h.needs hh).2.2 with ⟨_, e⟩ | ⟨_, e, _⟩ <;> omega
  unfold acc
  split
  · exact rng 1 (by omega) (by omega)
  split
  · rename_i c; have := na (.inl c); exact lk _ this.1 this.2
  split
  · rename_i c; have := na (.inr (.inl c)); exact rng _ this.1 this.2
  split
  · rename_i c; have := na (.inr (.inr c)); exact lk _ this.1 this.2
  have kin : 4 ≤ T.phase ∧ T.phase ≤ 9 → ∀ x ∈ T.locks, inn W x = true := fun hh x hx => by
    have H := h.held hh
    have := locks_in G (wr_in G H.2.2.2) x (by rw [← H.1]; exact hx)
    exact rng _ (by omega) (by omega)
  have gd : ∀ (l : List Int) (i : Nat), i < l.length → l.getD i 0 ∈ l := fun l i hi => by rw [List.getD_eq_getElem?_getD, List.getElem?_eq_getElem hi]; exact List.getElem_mem hi
  have gp : ∀ (l : M) (i : Nat), i < l.length → l.getD i (0, 0) ∈ l := fun l i hi => by rw [List.getD_eq_getElem?_getD, List.getElem?_eq_getElem hi]; exact List.getElem_mem hi
  split
  · rename_i c; exact kin (by omega) _ (gd _ _ (h.part (.inl c)))
  split
  · rename_i c; exact kin (by omega) _ (gd _ _ (h.part (.inr c)))
  split
  · exact rng 1 (by omega) (by omega)
  split
  · rename_i c
    have C := h.chk c
    have := C.2.2.2 _ (gd T.checks T.at_.toNat (by omega))
    exact rng _ (by omega) (by omega)
  split
  · rename_i c
    have C := h.sto c
    have := (h.wrote (by omega)).2.2.1 _ (gp T.writes T.at_.toNat (by omega))
    exact rng _ (by omega) (by omega)
  · have C := h.rel (by omega)
    have H := h.held (by omega)
    have hm := gp T.holds T.at_.toNat (by omega)
    have : (T.holds.getD T.at_.toNat (0, 0)).1 ∈ T.holds.map (·.1) := List.mem_map_of_mem hm
    rw [H.2.2.1] at this
    exact kin (by omega) _ (List.mem_of_mem_take this)

/-- words as they were at first -/
structure W0s (E : Env) (x : Int) (W : List Int) : Prop where
  clk : ld W 1 = x
  flag : ld W 2 = 0
  free : ∀ j, 3 ≤ j → j < 3 + E.stripes → ld W j = 0
structure Hi (E : Env) (x : Int) (l : List Int) (W : List Int) : Prop where
  clk : ld W 1 = x
  free : ∀ j, 3 ≤ j → j < 3 + E.stripes → j ∉ l → ld W j = 0
def rl (T : AT) : Int := T.reads.length
def hl (T : AT) : Int := T.holds.length
def ll (T : AT) : Int := T.locks.length
def cl (T : AT) : Int := T.checks.length
def wl (T : AT) : Int := T.writes.length
/-- an attempt alone, behind k steps -/
inductive Solo (E : Env) (x k : Int) (T : AT) (W : List Int) : Prop
  | p0 (h : T.phase = 0) (r : T.reads = []) (hk : k = 0) (hw : W0s E x W)
  | p1 (h : T.phase = 1) (s : T.seen = x) (hk : k = 1 + 3 * rl T) (hw : W0s E x W)
  | p2 (h : T.phase = 2) (s : T.seen = x) (w : T.was = 0) (hk : k = 2 + 3 * rl T) (hw : W0s E x W)
  | p3 (h : T.phase = 3) (s : T.seen = x) (w : T.was = 0) (hk : k = 3 + 3 * rl T) (hw : W0s E x W) (hn : T.na = 2 → T.nv = 0)
  | p4 (h : T.phase = 4) (s : T.seen = x) (hk : k = 1 + 3 * rl T + 2 * hl T) (hw : Hi E x (T.holds.map (·.1)) W)
  | p5 (h : T.phase = 5) (s : T.seen = x) (w : T.was = 0) (hk : k = 2 + 3 * rl T + 2 * hl T) (hw : Hi E x (T.holds.map (·.1)) W)
  | p6 (h : T.phase = 6) (s : T.seen = x) (hk : k = 1 + 3 * rl T + 2 * ll T) (hw : Hi E x (T.holds.map (·.1)) W)
  | p7 (h : T.phase = 7) (s : T.seen = x) (hk : k = 2 + 3 * rl T + 2 * ll T + T.at_) (hc : cl T ≤ E.stripes) (hw : ∀ j ∈ T.checks, ld W j = 0)
  | p8 (h : T.phase = 8) (hk : k = 2 + 3 * rl T + 2 * ll T + cl T + T.at_) (hc : cl T ≤ E.stripes)
  | p9 (h : T.phase = 9) (ho : T.how = 1) (hk : k = 2 + 3 * rl T + 2 * ll T + cl T + wl T + T.at_) (hc : cl T ≤ E.stripes)
  | p10 (h : T.phase = 10) (ho : T.how = 1) (hk : k ≤ 2 + 3 * rl T + 4 * E.stripes + wl T)

theorem fresh0 {x : Int} (h : 0 ≤ x) : freshB 0 x = true := by unfold freshB; simpa using h
theorem up_fresh {l : List Int} (h : Up l) {i : Nat} (hi : i < l.length) : l.getD i 0 ∉ l.take i := by
  intro hm
  have hn : (l.take (i + 1)).Nodup := h.nodup.sublist (List.take_sublist _ _)
  rw [List.take_succ_eq_append_getElem hi] at hn
  have := (List.nodup_append.1 hn).2.2
  rw [List.getD_eq_getElem?_getD, List.getElem?_eq_getElem hi] at hm
  exact this _ hm _ (List.mem_singleton.2 rfl) rfl

theorem solo_step {E : Env} {lo : Int} {d : Nat} (G : Good E lo d) {x : Int} (hx : 0 ≤ x ∧ x < E.clock) {k : Int} {T : AT} {W : List Int} (hO : Okk E lo d T W) (hS : Solo E x k T W) (hp : T.phase ≠ 10) : Solo E x (k + 1) (step E T W).1 (step E T W).2 := by
  have G3 := G.lo3; have GS := G.str; have GF := G.fits
  have f0 := fresh0 hx.1
  have hin1 : inn W 1 = true := inn_len hO.len (by omega) (by omega)
  have rls : ∀ r : M, ∀ p, ((r ++ [p]).length : Int) = (r.length : Int) + 1 := fun r p => by simp
  cases hS with
  | p0 h r hk hw =>
    have e : step E T W = (sees E T W, W) := by unfold step; rw [if_neg hp, if_pos h]
    rw [e]
    have e2 : sees E T W = { T with seen := ld W 1, na := 2, phase := 1 } := by unfold sees; simp only; rw [if_neg (by rw [hw.clk]; omega)]
    rw [e2]
    exact .p1 rfl hw.clk (by show k + 1 = 1 + 3 * (T.reads.length : Int); rw [r, hk]; rfl) hw
  | p1 h s hk hw =>
    have e : step E T W = (locked E T W, W) := by unfold step; rw [if_neg hp, if_neg (by omega), if_pos h]
    rw [e]
    have hna : 0 ≤ T.na ∧ T.na < E.words := by rcases (hO.wf.needs (.inl h)).2.2 with ⟨_, e⟩ | ⟨_, e, _⟩ <;> omega
    have hlk := lock_in G hna.1 hna.2
    have hw0 := hw.free _ hlk.1 hlk.2
    have e2 : locked E T W = { T with was := ld W (lock E T.na), phase := 2 } := by unfold locked; simp only; rw [hw0, s, if_pos f0]
    rw [e2]
    exact .p2 rfl s hw0 (by show k + 1 = 2 + 3 * rl T; omega) hw
  | p2 h s w hk hw =>
    have e : step E T W = (loads T W, W) := by unfold step; rw [if_neg hp, if_neg (by omega), if_neg (by omega), if_pos h]
    rw [e]
    exact .p3 rfl s w (by show k + 1 = 3 + 3 * rl T; omega) hw (fun hn => by have hn : T.na = 2 := hn; show ld W T.na = 0; rw [hn]; exact hw.flag)
  | p3 h s w hk hw hn =>
    have e : step E T W = (confirms E T W, W) := by unfold step; rw [if_neg hp, if_neg (by omega), if_neg (by omega), if_neg (by omega), if_pos h]
    rw [e]
    have hna : 0 ≤ T.na ∧ T.na < E.words := by rcases (hO.wf.needs (.inr (.inr h))).2.2 with ⟨_, e⟩ | ⟨_, e, _⟩ <;> omega
    have hlk := lock_in G hna.1 hna.2
    have hw0 := hw.free _ hlk.1 hlk.2
    have hh := (hO.wf.needs (.inr (.inr h))).2.1
    have e2 : confirms E T W = goesOn E { T with reads := T.reads ++ [(T.na, T.nv)] } := by
      unfold confirms; rw [if_neg]; rintro (c | ⟨c1, c2⟩)
      · exact c (by rw [hw0, w])
      · exact c2 (hn c1)
    rw [e2]
    have hr := rls T.reads (T.na, T.nv)
    unfold goesOn; simp only
    split
    · exact .p1 rfl s (by show k + 1 = 1 + 3 * ((T.reads ++ [(T.na, T.nv)]).length : Int); unfold rl at hk; omega) hw
    · split
      · exact .p10 rfl rfl (by show k + 1 ≤ 2 + 3 * ((T.reads ++ [(T.na, T.nv)]).length : Int) + 4 * E.stripes + (T.writes.length : Int); unfold rl at hk; omega)
      · exact .p4 rfl s (by show k + 1 = 1 + 3 * ((T.reads ++ [(T.na, T.nv)]).length : Int) + 2 * (T.holds.length : Int); rw [hh]; unfold rl at hk; simp only [List.length_nil]; omega) ⟨hw.clk, fun j h1 h2 _ => hw.free j h1 h2⟩
  | p4 h s hk hw =>
    have e : step E T W = (looks T W, W) := by unfold step; rw [if_neg hp, if_neg (by omega), if_neg (by omega), if_neg (by omega), if_neg (by omega), if_pos h]
    rw [e]
    have H := hO.wf.held (by omega)
    have P := hO.wf.part (.inl h)
    have kin : T.locks.getD T.holds.length 0 ∈ T.locks := by rw [List.getD_eq_getElem?_getD, List.getElem?_eq_getElem P]; exact List.getElem_mem P
    have k3 := locks_in G (wr_in G H.2.2.2) _ (by rw [← H.1]; exact kin)
    have hup : Up T.locks := by rw [H.1]; exact up_locksOf _ _
    have hw0 := hw.free _ k3.1 k3.2 (by rw [H.2.2.1]; exact up_fresh hup P)
    have e2 : looks T W = { T with was := ld W (T.locks.getD T.holds.length 0), phase := 5 } := by unfold looks; simp only; rw [hw0, s, if_pos f0]
    rw [e2]
    exact .p5 rfl s hw0 (by show k + 1 = 2 + 3 * rl T + 2 * hl T; omega) hw
  | p5 h s w hk hw =>
    have e : step E T W = grabs T W := by unfold step; rw [if_neg hp, if_neg (by omega), if_neg (by omega), if_neg (by omega), if_neg (by omega), if_neg (by omega), if_pos h]
    rw [e]
    have H := hO.wf.held (by omega)
    have P := hO.wf.part (.inr h)
    have kin : T.locks.getD T.holds.length 0 ∈ T.locks := by rw [List.getD_eq_getElem?_getD, List.getElem?_eq_getElem P]; exact List.getElem_mem P
    have k3 := locks_in G (wr_in G H.2.2.2) _ (by rw [← H.1]; exact kin)
    have hup : Up T.locks := by rw [H.1]; exact up_locksOf _ _
    have hw0 := hw.free _ k3.1 k3.2 (by rw [H.2.2.1]; exact up_fresh hup P)
    have hink : inn W (T.locks.getD T.holds.length 0) = true := inn_len hO.len (by omega) (by omega)
    have hi' : Hi E x ((T.holds ++ [(T.locks.getD T.holds.length 0, T.was)]).map (·.1)) (st W (T.locks.getD T.holds.length 0) (heldW T.owner)) := by
      refine ⟨by rw [ld_st', if_neg (by omega)]; exact hw.clk, fun j h1 h2 h3 => ?_⟩
      rw [List.map_append, List.mem_append, not_or] at h3
      have h4 : j ≠ T.locks.getD T.holds.length 0 := fun hh => h3.2 (by simp [hh])
      rw [ld_st', if_neg (fun hh => h4 hh.2)]
      exact hw.free j h1 h2 h3.1
    have hr : ((T.holds ++ [(T.locks.getD T.holds.length 0, T.was)]).length : Int) = (T.holds.length : Int) + 1 := by simp
    unfold grabs; simp only
    rw [if_pos ⟨by rw [hw0, w], hink⟩]
    simp only
    split
    · rename_i c
      refine .p6 rfl s ?_ hi'
      show k + 1 = 1 + 3 * rl T + 2 * ll T
      unfold hl at hk; unfold ll; omega
    · refine .p4 rfl s ?_ hi'
      show k + 1 = 1 + 3 * rl T + 2 * ((T.holds ++ [(T.locks.getD T.holds.length 0, T.was)]).length : Int)
      unfold hl at hk; omega
  | p6 h s hk hw =>
    have e : step E T W = bumps E T W := by unfold step; rw [if_neg hp, if_neg (by omega), if_neg (by omega), if_neg (by omega), if_neg (by omega), if_neg (by omega), if_neg (by omega), if_pos h]
    rw [e]
    have H := hO.wf.held (by omega)
    have Fu := hO.wf.full (by omega)
    have eh : T.holds.map (·.1) = T.locks := by rw [H.2.2.1, Fu, List.take_length]
    have eb : bumpE W 1 E.clock = 0 := by
      unfold bumpE
      have e3 : W.getD (Int.toNat 1) 0 = ld W 1 := by unfold ld; rw [hin1]; rfl
      rw [hin1, if_pos rfl, e3, hw.clk, if_neg (by omega)]
    unfold bumps; simp only
    rw [if_neg (by rw [eb]; simp)]
    obtain ⟨ck, hck⟩ : ∃ ck, ((locksOf E T.reads).filter fun x => !T.locks.contains x) = ck := ⟨_, rfl⟩
    rw [hck]
    have ku : Up ck := by rw [← hck]; exact (up_locksOf _ _).filter _
    have kin : ∀ y ∈ ck, (3 ≤ y ∧ y < 3 + E.stripes) ∧ y ∉ T.locks := fun y hy => by
      rw [← hck] at hy
      obtain ⟨h1, h2⟩ := List.mem_filter.1 hy
      exact ⟨locks_in G (reads_in G hO.wf) y h1, by simpa using h2⟩
    have kl := Up.len ku (fun y hy => (kin y hy).1)
    rw [if_pos (by omega)] at kl
    have hz : ∀ j ∈ ck, ld (bumpW W 1 E.clock) j = 0 := fun j hj => by
      have := kin j hj
      rw [ld_bump, if_neg (by omega)]
      exact hw.free j this.1.1 this.1.2 (by rw [eh]; exact this.2)
    unfold next; simp only
    split
    · rename_i c
      refine .p8 rfl ?_ ?_
      · show k + 1 = 2 + 3 * rl T + 2 * ll T + (ck.length : Int) + 0
        omega
      · show (ck.length : Int) ≤ E.stripes; omega
    · refine .p7 rfl s ?_ ?_ hz
      · show k + 1 = 2 + 3 * rl T + 2 * ll T + 0
        omega
      · show (ck.length : Int) ≤ E.stripes; omega
  | p7 h s hk hc hw =>
    have e : step E T W = (verifies T W, W) := by unfold step; rw [if_neg hp, if_neg (by omega), if_neg (by omega), if_neg (by omega), if_neg (by omega), if_neg (by omega), if_neg (by omega), if_neg (by omega), if_pos h]
    rw [e]
    have C := hO.wf.chk h
    have hm : T.checks.getD T.at_.toNat 0 ∈ T.checks := by
      have : T.at_.toNat < T.checks.length := by omega
      rw [List.getD_eq_getElem?_getD, List.getElem?_eq_getElem this]; exact List.getElem_mem this
    have hwr := (hO.wf.wrote (by omega)).1
    unfold verifies; simp only
    rw [hw _ hm, s, if_pos f0]
    split
    · rename_i c
      unfold next; simp only
      rw [if_neg (by intro hh; exact hwr (List.length_eq_zero_iff.1 hh))]
      refine .p8 rfl ?_ hc
      show k + 1 = 2 + 3 * rl T + 2 * ll T + (T.checks.length : Int) + 0
      omega
    · refine .p7 h (by first | exact s | rfl) ?_ hc hw
      show k + 1 = 2 + 3 * rl T + 2 * ll T + (T.at_ + 1)
      omega
  | p8 h hk hc =>
    have e : step E T W = stores T W := by unfold step; rw [if_neg hp, if_neg (by omega), if_neg (by omega), if_neg (by omega), if_neg (by omega), if_neg (by omega), if_neg (by omega), if_neg (by omega), if_neg (by omega), if_pos h]
    rw [e]
    have C := hO.wf.sto h
    have Fu := hO.wf.full (by omega)
    have H := hO.wf.held (by omega)
    have Wr := hO.wf.wrote (by omega)
    obtain ⟨p, l, hpl⟩ := List.exists_cons_of_ne_nil Wr.1
    have hpos : 0 < T.locks.length := by
      have : lock E p.1 ∈ locksOf E T.writes := mem_locksOf.2 ⟨p, by rw [hpl]; simp, rfl⟩
      rw [Wr.2.2.2]; exact List.length_pos_of_mem this
    unfold stores; simp only
    split
    · unfold next; simp only
      rw [if_neg (by omega)]
      refine .p9 rfl rfl ?_ hc
      show k + 1 = 2 + 3 * rl T + 2 * ll T + cl T + (T.writes.length : Int) + 0
      omega
    · refine .p8 h ?_ hc
      show k + 1 = 2 + 3 * rl T + 2 * ll T + cl T + (T.at_ + 1)
      omega
  | p9 h ho hk hc =>
    have e : step E T W = releases T W := by unfold step; rw [if_neg hp, if_neg (by omega), if_neg (by omega), if_neg (by omega), if_neg (by omega), if_neg (by omega), if_neg (by omega), if_neg (by omega), if_neg (by omega), if_neg (by omega)]
    rw [e]
    have C := hO.wf.rel h
    have Fu := hO.wf.full (.inr ⟨h, ho⟩)
    have H := hO.wf.held (by omega)
    have hL : (T.locks.length : Int) ≤ E.stripes := by rw [H.1]; exact locks_len G (wr_in G H.2.2.2)
    unfold releases; simp only
    split
    · refine .p10 rfl ho ?_
      show k + 1 ≤ 2 + 3 * rl T + 4 * E.stripes + wl T
      unfold ll at hk; omega
    · refine .p9 h ho ?_ hc
      show k + 1 = 2 + 3 * rl T + 2 * ll T + cl T + wl T + (T.at_ + 1)
      omega
  | p10 h _ _ => exact absurd h hp
end Att
end Go.Proofs.YthojgahcpkdemaaGreat

/- the environment of the statements of this layer -/
namespace Go.Proofs.YthojgahcpkdemaaGreat
open Go.RowKit Go.Bas View VIn IMap_ VPlain Lay RefLay Of Small_
open Go.ChangeShapes Go.Sor
namespace Att

theorem rd_in {f : Int → Option Int} (hf : ∀ a y, f a = some y → In64 y) {m : M} (hm : PIn m) {a y : Int} (h : rd f m a = some y) : In64 y := by
  unfold rd at h
  split at h
  · cases h; exact in0
  · split at h
    · cases h; exact View.getD_in hm a
    · exact hf _ _ h
theorem play_in {f : Int → Option Int} (hf : ∀ a y, f a = some y → In64 y) : ∀ (l : List Ins) (sk : Bool) (x : Int) (m : M) (qs : List Int), SIn l → In64 x → PIn m → ∀ m', (play f l sk x m qs).1 = .inr m' → PIn m'
  | [], sk, x, m, qs, _, _, hm, m', h => by
    have : m = m' := by cases sk <;> (simp [play] at h; exact h)
    subst this; exact hm
  | i :: r, true, x, m, qs, hl, hx, hm, m', h => by
    simp only [play] at h
    exact play_in hf r false x m qs (fun j hj => hl j (by simp [hj])) hx hm m' h
  | i :: r, false, x, m, qs, hl, hx, hm, m', h => by
    have hi := hl i (by simp)
    have hl2 : SIn r := fun j hj => hl j (by simp [hj])
    have key := fun sk y m2 q2 (h1 : In64 y) (h2 : PIn m2) h3 => play_in hf r sk y m2 q2 hl2 h1 h2 m' h3
    simp only [play] at h
    split at h
    · cases hr : rd f m i.a with
      | some y => rw [hr] at h; exact key _ _ _ _ (rd_in hf hm hr) hm h
      | none => rw [hr] at h; simp at h
    · split at h
      · exact key _ _ _ _ hx (View.wr_in hm hi.1 hi.2) h
      · split at h
        · exact key _ _ _ _ hx (View.wr_in hm hi.1 hx) h
        · split at h
          · cases hr : rd f m x with
            | some y => rw [hr] at h; exact key _ _ _ _ (rd_in hf hm hr) hm h
            | none => rw [hr] at h; simp at h
          · split at h
            · exact key _ _ _ _ hx hm h
            · exact key _ _ _ _ hx hm h

theorem fits_sin {t : Int} (ht : 0 ≤ t ∧ t ≤ 1000000) {l : List Ins} (hl : SIn l) : SIn (fits t l) := fun p hp => by
  have h1 := fits_in t l p hp
  unfold fits at hp
  obtain ⟨j, hj, rfl⟩ := List.mem_map.1 hp
  exact ⟨⟨by omega, by omega⟩, (hl j (List.mem_of_mem_take hj)).2⟩
theorem rb_run {cf : Cfg} {at_ : At} {t : Int} (ht : 0 ≤ t ∧ t ≤ 1000000) {l : List Ins} (hl : SIn l) : RB (env cf at_ (runOf (fits t l))) := fun k hk => by
  show In64 (runOf (fits t l) k).1 ∧ PIn (runOf (fits t l) k).2
  have pf := play_fit (VPlain.first k) t (t + 6) (fits t l) false 0 [] [] (fits_in t l) List.Pairwise.nil (by simp)
  have pin := play_in (f := VPlain.first k) (fun a y h => first_in hk h) (fits t l) false 0 [] [] (fits_sin ht hl) in0 (fun p hp => (List.not_mem_nil hp).elim)
  unfold runOf
  cases e : (play (VPlain.first k) (fits t l) false 0 [] []).1 with
  | inl a => have := pf.1 a e; exact ⟨⟨by show _ ≤ a; omega, by show a ≤ _; omega⟩, fun p hp => (List.not_mem_nil hp).elim⟩
  | inr m => exact ⟨⟨by show _ ≤ (-1 : Int); omega, by show (-1 : Int) ≤ _; omega⟩, pin m e⟩

/-- of a small layout -/
theorem table_small (c0 : Cfg) : (places (small c0)).a0 = 3 + (small c0).stripes := rfl
theorem good_small (c0 : Cfg) (l : List Ins) : Good (env (small c0) (places (small c0)) (runOf (fits (places (small c0)).a0 l))) (places (small c0)).a0 6 := by
  have F := small_fine c0
  have hw := words_in F
  have hs := F.stripes
  have ht := table_small c0
  refine ⟨hs.1, by show 3 + (small c0).stripes ≤ _; omega, ?_, fun k h => runOf_need l k h, fun k h => runOf_wrote (by omega) l k h⟩
  show (places (small c0)).a0 + ((6 : Nat) : Int) ≤ (places (small c0)).a11
  rw [places_words, ht]
  omega
theorem words0_len (c : Cfg) (x : Int) : ((words0 c x).length : Int) = (places (small c)).a11 := by
  have hw := words_in (small_fine c)
  unfold words0
  rw [List.length_set, List.length_replicate, places_words]; omega
theorem ld_words0 (c : Cfg) (x a : Int) : ld (words0 c x) a = if a = 1 then clock0 c x else 0 := by
  have hw := words_in (small_fine c)
  have h1 : inn (List.replicate (words (small c)).toNat (0 : Int)) 1 = true := by unfold inn; simp; omega
  have e : words0 c x = (List.replicate (words (small c)).toNat (0 : Int)).set (Int.toNat 1) (clock0 c x) := rfl
  rw [e, ld_set _ h1]
  split
  · rfl
  · exact ld_rep _ _
theorem clock0_in (c : Cfg) (x : Int) : 0 ≤ clock0 c x ∧ clock0 c x ≤ (small c).clock ∧ clock0 c x ≤ 1000 := by
  have F := (small_fine c).clock
  unfold clock0
  have := Int.emod_nonneg (IntKind.u64.wrap x) (b := min (small c).clock 1000 + 1) (by omega)
  have := Int.emod_lt_of_pos (IntKind.u64.wrap x) (b := min (small c).clock 1000 + 1) (by omega)
  omega
theorem wb_words0 (c : Cfg) (x : Int) : WB (words0 c x) := by
  have h := clock0_in c x
  refine ⟨fun k => ?_, ?_⟩
  · rw [ld_words0]; split
    · exact ⟨by omega, by omega⟩
    · exact in0
  · rw [ld_words0]; simpa using h.1
end Att
end Go.Proofs.YthojgahcpkdemaaGreat

/- an attempt alone: until it is over -/
namespace Go.Proofs.YthojgahcpkdemaaGreat
open Go.RowKit Go.Bas View VIn IMap_ VPlain Lay RefLay Of Small_
open Go.ChangeShapes Go.Sor
namespace Att

theorem writes_step (E : Env) (T : AT) (W : List Int) : (step E T W).1.writes = T.writes ∨ ∃ l, (step E T W).1.writes = (E.run l).2 := by
  have u : ∀ (T1 : AT) how, (giveUp T1 how).writes = T1.writes := fun T1 how => by unfold giveUp; split <;> rfl
  have v : ∀ (T1 : AT) p n, (next T1 p n).writes = T1.writes := fun _ _ _ => rfl
  unfold step
  by_cases c : T.phase = 10
  · rw [if_pos c]; exact .inl rfl
  rw [if_neg c]
  by_cases c0 : T.phase = 0
  · rw [if_pos c0]; refine .inl ?_; unfold sees; simp only; split <;> rfl
  rw [if_neg c0]
  by_cases c1 : T.phase = 1
  · rw [if_pos c1]; refine .inl ?_; unfold locked; simp only; split <;> rfl
  rw [if_neg c1]
  by_cases c2 : T.phase = 2
  · rw [if_pos c2]; exact .inl rfl
  rw [if_neg c2]
  by_cases c3 : T.phase = 3
  · rw [if_pos c3]
    by_cases h1 : ld W (lock E T.na) ≠ T.was ∨ (T.na = 2 ∧ T.nv ≠ 0)
    · refine .inl ?_; unfold confirms; rw [if_pos h1]; rfl
    · by_cases h2 : 0 ≤ (E.run (T.reads ++ [(T.na, T.nv)]).tail).1
      · refine .inl ?_; unfold confirms; rw [if_neg h1]; unfold goesOn; simp only; rw [if_pos h2]
      · by_cases h3 : (E.run (T.reads ++ [(T.na, T.nv)]).tail).2 = []
        · refine .inl ?_; unfold confirms; rw [if_neg h1]; unfold goesOn; simp only; rw [if_neg h2, if_pos h3]; rfl
        · refine .inr ⟨(T.reads ++ [(T.na, T.nv)]).tail, ?_⟩; unfold confirms; rw [if_neg h1]; unfold goesOn; simp only; rw [if_neg h2, if_neg h3]
  rw [if_neg c3]
  by_cases c4 : T.phase = 4
  · rw [if_pos c4]; refine .inl ?_; unfold looks; simp only; split
    · rfl
    · rw [u]
  rw [if_neg c4]
  by_cases c5 : T.phase = 5
  · rw [if_pos c5]; refine .inl ?_; unfold grabs; simp only; split
    · rfl
    · split
      · rfl
      · rw [u]
  rw [if_neg c5]
  by_cases c6 : T.phase = 6
  · rw [if_pos c6]; refine .inl ?_; unfold bumps; simp only; split
    · rw [u]
    · rfl
  rw [if_neg c6]
  by_cases c7 : T.phase = 7
  · rw [if_pos c7]; refine .inl ?_; unfold verifies; simp only; split
    · split <;> rfl
    · rw [u]
  rw [if_neg c7]
  by_cases c8 : T.phase = 8
  · rw [if_pos c8]; refine .inl ?_; unfold stores; simp only; split <;> rfl
  rw [if_neg c8]
  refine .inl ?_; unfold releases; simp only; split <;> rfl
structure Lone (E : Env) (lo x k : Int) (T : AT) (W : List Int) : Prop where
  ok : Okk E lo 6 T W
  low : Low T
  wb : WB W
  wl : T.writes.length ≤ 20
  most : 0 ≤ k ∧ k + mu E.stripes 6 T ≤ 285
  how : (x < E.clock ∧ Solo E x k T W) ∨ (E.clock ≤ x ∧ ((k = 0 ∧ T.phase = 0 ∧ T.reads = [] ∧ ld W 1 = x) ∨ (k = 1 ∧ T.phase = 10 ∧ T.how = 3)))
theorem Lone.step {E : Env} {lo x k : Int} (G : Good E lo 6) (R : RB E) (hc : E.clock ≤ 9223372036854775807) (hx : 0 ≤ x) (hml : ∀ l, (E.run l).2.length ≤ 20) {T : AT} {W : List Int} (h : Lone E lo x k T W) (hp : T.phase ≠ 10) : Lone E lo x (k + 1) (step E T W).1 (step E T W).2 := by
  obtain ⟨ho, hL, hW, hw, hm, hh⟩ := h
  have o := okk_step G R hc ho hW hp
  have l := (ok_step G ho.wf W hp).less
  refine ⟨o.1, low_step hL ho.wf.ph, o.2, ?_, by omega, ?_⟩
  · rcases writes_step E T W with e | ⟨l, e⟩
    · rw [e]; exact hw
    · rw [e]; exact hml l
  rcases hh with ⟨h1, h2⟩ | ⟨h1, ⟨h2, h3, h4, h5⟩ | ⟨h2, h3, h4⟩⟩
  · exact .inl ⟨h1, solo_step G ⟨hx, h1⟩ ho h2 hp⟩
  · refine .inr ⟨h1, .inr ⟨by omega, ?_⟩⟩
    have e : Att.step E T W = (sees E T W, W) := by unfold Att.step; rw [if_neg hp, if_pos h3]
    rw [e]
    unfold sees; simp only
    rw [if_pos (by omega)]
    exact ⟨rfl, rfl⟩
  · exact absurd h3 hp
theorem Lone.k {E : Env} {lo x k : Int} (G : Good E lo 6) {T : AT} {W : List Int} (h : Lone E lo x k T W) : 0 ≤ k ∧ k ≤ 285 := by
  have := mu_nonneg G h.ok.wf
  have := h.most
  omega
theorem Lone.over {E : Env} {lo x k : Int} (G : Good E lo 6) {T : AT} {W : List Int} (h : Lone E lo x k T W) (hp : T.phase = 10) :
    (decide (T.how = 3) = decide (E.clock ≤ x)) ∧ (T.how = 3 ∨ T.how = 1) ∧ k ≤ 2 + 3 * (T.reads.length : Int) + 4 * E.stripes + ((wroteB T).length : Int) := by
  have GS := G.str
  rcases h.how with ⟨h1, h2⟩ | ⟨h1, ⟨_, h3, _⟩ | ⟨h2, h3, h4⟩⟩
  · cases h2 with
    | p10 h ho hk =>
      refine ⟨by rw [ho]; simp; omega, .inr ho, ?_⟩
      have e : wroteB T = T.writes := by unfold wroteB sureB; rw [if_pos (by simp [ho])]
      rw [e]; exact hk
    | p0 h | p1 h | p2 h | p3 h | p4 h | p5 h | p6 h | p7 h | p8 h | p9 h => omega
  · omega
  · exact ⟨by rw [h4]; simpa using h1, .inl h4, by omega⟩
theorem Lone.new (c0 : Cfg) (y : Int) (l : List Ins) : Lone (env (small c0) (places (small c0)) (runOf (fits (places (small c0)).a0 l))) (places (small c0)).a0 (clock0 c0 y) 0 (newT 0) (words0 c0 y) := by
  have F := (small_fine c0).stripes
  have hc := clock0_in c0 y
  refine ⟨Okk.new (by omega) (words0_len c0 y), Low.new 0, wb_words0 c0 y, Nat.zero_le _, ⟨by omega, ?_⟩, ?_⟩
  · show (0 : Int) + mu (small c0).stripes 6 (newT 0) ≤ 285
    unfold mu newT; simp; omega
  · by_cases h : clock0 c0 y < (small c0).clock
    · refine .inl ⟨h, .p0 rfl rfl rfl ⟨?_, ?_, fun j h1 h2 => ?_⟩⟩
      · rw [ld_words0, if_pos rfl]
      · rw [ld_words0, if_neg (by omega)]
      · rw [ld_words0, if_neg (by omega)]
    · exact .inr ⟨Int.not_lt.1 h, .inl ⟨rfl, rfl, rfl, by rw [ld_words0, if_pos rfl]⟩⟩

/-- in memory -/
def LoneW (w : World) (S : Nat → Prop) (b a g : Nat) (c0 : Cfg) (y : Int) (is : List Ins) (k : Nat) (T : AT) : Prop :=
  ∃ W, One w S b a g (small c0) (places (small c0)) (runOf (fits (places (small c0)).a0 is)) T W (2 + k) ∧ Lone (env (small c0) (places (small c0)) (runOf (fits (places (small c0)).a0 is))) (places (small c0)).a0 (clock0 c0 y) k T W
theorem LoneW.below {w w' : World} {S : Nat → Prop} {b a g : Nat} {c0 : Cfg} {y : Int} {is : List Ins} {k : Nat} {T : AT} (h : LoneW w S b a g c0 y is k T) (hb : Below w.heap.size w w') : LoneW w' S b a g c0 y is k T := by
  obtain ⟨W, h1, h2⟩ := h; exact ⟨W, h1.below hb, h2⟩
theorem loneW_step {w : World} {S : Nat → Prop} {b a g : Nat} {c0 : Cfg} {y : Int} {is : List Ins} (hsi : SIn is) {k : Nat} {T : AT} (h : LoneW w S b a g c0 y is k T) (hp : T.phase ≠ 10) :
    Calls Tryz.prog 16 #[.pointer (some ⟨b, 0, none⟩), .pointer (some ⟨a, 0, none⟩)] w fun e w' => ∃ T', e = .returned (.int .i64 (told T')) ∧ LoneW w' S b a g c0 y is (k + 1) T' ∧ Chg (fun k => ¬ S k) w w' := by
  obtain ⟨W, h1, h2⟩ := h
  have F := small_fine c0
  have hst := F.stripes; have hck := F.clock
  have ht := table_small c0
  have G := good_small c0 is
  have hk := h2.k G
  refine (h1.step G (by omega) hst.2 (by omega) (fun l => by have := runOf_len (fits (places (small c0)).a0 is) l; have := fits_len (places (small c0)).a0 is; omega) h2.ok h2.low h2.wb (by omega) hp).mono ?_
  rintro e w' ⟨rfl, h3, h4⟩
  have hin := acc_in G h2.ok.wf h2.ok.len hp
  refine ⟨_, rfl, ⟨_, ?_, by have := h2.step G (rb_run (by omega) hsi) (by show (small c0).clock ≤ _; omega) (clock0_in c0 y).1 (fun l => Nat.le_trans (runOf_len _ l) (fits_len _ is)) hp; simpa using this⟩, h4⟩
  have e : (2 + (k : Int) + cnt W (acc (env (small c0) (places (small c0)) (runOf (fits (places (small c0)).a0 is))) T)) = 2 + ((k + 1 : Nat) : Int) := by
    unfold cnt; rw [hin]; simp; omega
  rw [e] at h3
  exact h3
theorem loneW_new {w : World} {S : Nat → Prop} {b a g pc base : Nat} {c0 c1 : Cfg} {pl : At} {tb y : Int} {W : List Int} {is : List Ins} {s : Value} (he : small c0 = c1 ∧ places c1 = pl ∧ pl.a0 = tb ∧ words0 c0 y = W) (ht : 0 ≤ tb ∧ tb ≤ 1000000) (hsi : SIn is)
    (hR : Row w b (newV c1 pl (progV pc)) (newT 0)) (hA : Ar w a g W 2) (hne : b ≠ a ∧ b ≠ g) (hp : w.heap[pc]? = some (.cells #[s] 40 (0, 0))) (hs : ITold w base (fits tb is) s)
    (hS : ∀ k, S k → k < w.heap.size ∧ k ≠ b ∧ k ≠ a ∧ k ≠ g) (hin : ∀ k, (k = pc ∨ s.ownBlock = some k) → S k) : LoneW w S b a g c0 y is 0 (newT 0) := by
  obtain ⟨rfl, rfl, rfl, rfl⟩ := he
  exact ⟨_, One.new hR hA hne ((runs_prog ht hp hs hsi).mono hin) hS, Lone.new c0 y is⟩
theorem loneW_reads {w : World} {S : Nat → Prop} {b a g : Nat} {c0 : Cfg} {y : Int} {is : List Ins} {k : Nat} {T : AT} (h : LoneW w S b a g c0 y is k T) :
    Calls Tryz.prog 29 #[.pointer (some ⟨b, 0, none⟩)] w fun e w' => ∃ A c, e = .returned (.slice A T.reads.length c) ∧ Below w.heap.size w w' := by
  obtain ⟨W, h1, h2⟩ := h
  obtain ⟨X, I, _⟩ := h1.att
  have := reads_len h2.ok.wf
  refine (reads_any I (by omega)).mono ?_
  rintro e w' ⟨v, rfl, h3, h4⟩
  obtain ⟨A, c, rfl⟩ := told_slice h3
  exact ⟨A, c, rfl, h4⟩
theorem loneW_writes {w : World} {S : Nat → Prop} {b a g : Nat} {c0 : Cfg} {y : Int} {is : List Ins} {k : Nat} {T : AT} (h : LoneW w S b a g c0 y is k T) :
    Calls Tryz.prog 24 #[.pointer (some ⟨b, 0, none⟩)] w fun e w' => ∃ A c, e = .returned (.slice A (wroteB T).length c) ∧ Below w.heap.size w w' := by
  obtain ⟨W, h1, h2⟩ := h
  obtain ⟨X, I, _⟩ := h1.att
  have := h2.wl
  refine (writes_any I (by omega)).mono ?_
  rintro e w' ⟨v, rfl, h3, h4⟩
  obtain ⟨A, c, rfl⟩ := told_slice h3
  exact ⟨A, c, rfl, h4⟩
theorem loneW_count {w : World} {S : Nat → Prop} {b a g : Nat} {c0 : Cfg} {y : Int} {is : List Ins} {k : Nat} {T : AT} (h : LoneW w S b a g c0 y is k T) :
    Calls Tryz.prog 28 #[.pointer (some ⟨a, 0, none⟩)] w fun e w' => e = .returned (.int .i64 (2 + k)) ∧ Below w.heap.size w w' := by
  obtain ⟨W, h1, h2⟩ := h
  exact count_any h1.ar
theorem loneW_over {w : World} {S : Nat → Prop} {b a g : Nat} {c0 : Cfg} {y : Int} {is : List Ins} {k : Nat} {T : AT} (h : LoneW w S b a g c0 y is k T) (hp : T.phase = 10) (m : Value) :
    Calls Tryz.prog 16 #[.pointer (some ⟨b, 0, none⟩), m] w fun e w' => e = .returned (.int .i64 (told T)) ∧ Below w.heap.size w w' := by
  obtain ⟨W, h1, h2⟩ := h
  obtain ⟨X, I⟩ := h1.row
  exact step_over I hp m
theorem loneW_k {w : World} {S : Nat → Prop} {b a g : Nat} {c0 : Cfg} {y : Int} {is : List Ins} {k : Nat} {T : AT} (h : LoneW w S b a g c0 y is k T) : k ≤ 285 := by
  obtain ⟨W, h1, h2⟩ := h
  have := h2.k (good_small c0 is); omega
theorem loneW_end {w : World} {S : Nat → Prop} {b a g : Nat} {c0 : Cfg} {y : Int} {is : List Ins} {k : Nat} {T : AT} (h : LoneW w S b a g c0 y is k T) (hp : T.phase = 10) :
    (decide (told T = 3) = decide ((small c0).clock ≤ clock0 c0 y)) ∧ (told T = 3 ∨ told T = 1) ∧ T.reads.length ≤ 7 ∧ (wroteB T).length ≤ 20 ∧ (k : Int) ≤ 2 + 3 * (T.reads.length : Int) + 4 * (small c0).stripes + ((wroteB T).length : Int) := by
  obtain ⟨W, h1, h2⟩ := h
  have e : told T = T.how := by unfold told; rw [if_pos hp]
  have h3 := h2.over (good_small c0 is) hp
  have := reads_len h2.ok.wf
  have := h2.wl
  rw [e]
  refine ⟨h3.1, h3.2.1, by omega, ?_, h3.2.2⟩
  unfold wroteB; split
  · omega
  · simp
theorem loneW_low {w : World} {S : Nat → Prop} {b a g : Nat} {c0 : Cfg} {y : Int} {is : List Ins} {k : Nat} {T : AT} (h : LoneW w S b a g c0 y is k T) : ∀ j, S j → j < w.heap.size := by
  obtain ⟨W, h1, h2⟩ := h
  exact fun j hj => (h1.kept j hj).1
theorem told_going {w : World} {S : Nat → Prop} {b a g : Nat} {c0 : Cfg} {y : Int} {is : List Ins} {k : Nat} {T : AT} (h : LoneW w S b a g c0 y is k T) : (told T == 0) = decide (T.phase ≠ 10) := by
  by_cases hp : T.phase = 10
  · have := (loneW_end h hp).2.1
    have e : (told T == 0) = false := by rw [beq_eq_false_iff_ne]; omega
    rw [e]; simp [hp]
  · have e : told T = 0 := by unfold told; rw [if_neg hp]
    rw [e]; simp [hp]
end Att
end Go.Proofs.YthojgahcpkdemaaGreat

/- an attempt alone, step by step -/
namespace Go.Proofs.YthojgahcpkdemaaGreat
open Go.RowKit Go.Bas View VIn IMap_ VPlain Lay RefLay Of Small_
open Go.ChangeShapes Go.Sor Go.WideShapes
open Go.Proofs.YthojgahcpkdemaaGreatW.PrintLast
namespace Att
namespace Steps22

set_option maxRecDepth 100000 in
set_option maxHeartbeats 8000000 in
theorem walk_in {c0 : Cfg} {y : Int} {v2 : Value} {is : List Ins} {w0 : World} (hst : VIn.Steps w0 w0.heap.size v2 is) (hsi : SIn is) :
    Calls Tryz.prog 6 #[.agg (cfg c0), .int .i64 y, v2] w0 fun e w' => e = .returned (.bool true) ∧ Below w0.heap.size w0 w' := by
  obtain ⟨g0, hg0⟩ : ∃ g0, w0.heap.size = g0 := ⟨_, rfl⟩
  have F := small_fine c0
  have BG := fun w => beg_any c0 y w
  unfold BegOut at BG
  have LD1 := ld_words0 c0 y 1
  rw [if_pos rfl] at LD1
  have IN1 : inn (words0 c0 y) 1 = true := by have h := words0_len c0 y; have := words_in F; rw [places_words] at h; unfold inn; simp; omega
  have CK := clock0_in c0 y
  have LE1 := fun (w : World) (S : Nat → Prop) (b a g k : Nat) (T : AT) (h : LoneW w S b a g c0 y is k T) (hp : T.phase = 10) => loneW_end h hp
  obtain ⟨W, hWW⟩ : ∃ W, words0 c0 y = W := ⟨_, rfl⟩
  obtain ⟨x, hxx⟩ : ∃ x, clock0 c0 y = x := ⟨_, rfl⟩
  have HE0 : Hid (small c0 = small c0 ∧ places (small c0) = places (small c0) ∧ (places (small c0)).a0 = (places (small c0)).a0 ∧ words0 c0 y = W) := ⟨rfl, rfl, rfl, hWW⟩
  obtain ⟨c1, hc1⟩ : ∃ c1, small c0 = c1 := ⟨_, rfl⟩
  obtain ⟨pl, hpl⟩ : ∃ pl, places c1 = pl := ⟨_, rfl⟩
  rw [hc1] at F CK LE1
  rw [hxx] at LD1 CK LE1
  have hpg := F.pages
  have hcl := F.clock
  have hss := F.stripes
  have htb : 0 ≤ pl.a0 ∧ pl.a0 ≤ 1000000 := by have := place_in F 0; rw [← hpl]; show 0 ≤ place c1 0 ∧ place c1 0 ≤ 1000000; omega
  have TB := fun w => table_at c1 pl ⟨hpg.1, by omega⟩ htb w
  have MD := fun (pc : Nat) w => made_any c1 pl 0 (.func 43) #[] #[.pointer (some ⟨pc, 0, none⟩)] w
  have CF := fun w => config_any c1 pl w
  rw [hWW, hc1, hpl] at BG
  rw [hWW] at LD1 IN1
  obtain ⟨lv, hlv⟩ : ∃ lv, lay c1 pl = lv := ⟨_, rfl⟩
  have hls : (Tryz.prog.info? 29).map (·.size) = some lv.size := by rw [← hlv]; exact lay_size _ _
  have hl0 : lv.size = 23 := by rw [← hlv]; rfl
  have hl1 : lv.all (·.oneCell') = true := by rw [← hlv]; exact lay_one _ _
  rw [hlv] at BG TB MD CF
  obtain ⟨tb, htbv⟩ : ∃ tb, pl.a0 = tb := ⟨_, rfl⟩
  rw [htbv] at TB htb
  have HE : Hid (small c0 = c1 ∧ places c1 = pl ∧ pl.a0 = tb ∧ words0 c0 y = W) := ⟨hc1, hpl, htbv, hWW⟩
  have LN1 := fun (w : World) (b a g k : Nat) (S : Nat → Prop) (T : AT) (h : LoneW w S b a g c0 y is k T) => loneW_k h
  have HBG := Lib.hid BG; have HTB := Lib.hid TB; have HMD := Lib.hid MD; have HCF := Lib.hid CF; have HLE := Lib.hid LE1; have HLD := Lib.hid LD1; have HIN := Lib.hid IN1
  have HLS := Lib.hid hls; have HL1 := Lib.hid hl1; have HL0 := Lib.hid hl0; have HTI := Lib.hid htb
  rw [hg0] at hst
  have HST := Lib.hid hst; have HSI := Lib.hid hsi
  have LN := Lib.hid (fun w => lives_any w)
  clear BG TB MD CF LE1 LD1 IN1 hls hl1 hl0 hlv hWW hpl hc1 hpg hst hsi htbv htb hxx HE0 LN1 F
  obtain ⟨w1, hw1⟩ : ∃ w1, w0.alloc (.cells (cfg c0) 23) = w1 := ⟨_, rfl⟩
  have R1 : Hid (w1.heap[g0]? = some (.cells (cfg c0) 23 (0, 0))) := by rw [← hw1, ← hg0]; exact new_row _ _ _
  have B1 : Hid (Below g0 w0 w1) := by rw [← hw1, ← hg0]; exact (Below.refl _ _).alloc (Nat.le_refl _) _
  have s1 : w1.heap.size = g0 + 1 := by rw [← hw1, ← hg0]; simp
  rw [hg0]
  go_enter Tryz.func6, Tryz.ntmps6
  go_upto_region 1 with fail
  go_upto_region 2 with (first
    | (refine wpList_load_row rfl 23 _ rfl g0 rfl 23 (cfg c0) (0, 0) _ R1.out Tryz.underlying23 rfl (cfg_size _) ?_)
    | (go_at_call 10; refine (HBG.out _).mono ?_; rintro e w2 ⟨a, g, ra, rfl, ha, hg, hA2, hb2⟩
       have B2 : Hid (Below g0 w0 w2) := B1.out.trans (hb2.mono (by omega))
       obtain ⟨l, hl⟩ : ∃ l, w2.heap.size = l := ⟨_, rfl⟩
       have hgl : g0 ≤ l := by have := hb2.size; omega
       have HAG : Hid ((g0 ≤ a ∧ g0 ≤ g) ∧ a ≠ l ∧ g ≠ l ∧ g0 ≤ l) := by have := hA2.lt; rw [Hid]; omega
       obtain ⟨w3, hw3⟩ : ∃ w3, w2.alloc (.cells #[.int .i64 0, .int .i64 0, .int .i64 0, .int .i64 0, .int .i64 0, .int .i64 0, .int .i64 0, .int .i64 0, .int .i64 0, .int .i64 0, .int .i64 0, .int .i64 0, .int .i64 0, .int .i64 0, .int .i64 0, .int .i64 0, .int .i64 0, .int .i64 0, .int .i64 0, .int .i64 0, .int .i64 0, .int .i64 0, .int .i64 0] 29) = w3 := ⟨_, rfl⟩
       have L3 : Hid (w3.heap[l]? = some (.cells #[.int .i64 0, .int .i64 0, .int .i64 0, .int .i64 0, .int .i64 0, .int .i64 0, .int .i64 0, .int .i64 0, .int .i64 0, .int .i64 0, .int .i64 0, .int .i64 0, .int .i64 0, .int .i64 0, .int .i64 0, .int .i64 0, .int .i64 0, .int .i64 0, .int .i64 0, .int .i64 0, .int .i64 0, .int .i64 0, .int .i64 0] 29 (0, 0))) := by rw [← hw3, ← hl]; exact new_row _ _ _
       have b23 : Below w2.heap.size w2 w3 := by rw [← hw3]; exact (Below.refl _ _).alloc (Nat.le_refl _) _
       have A3 : Hid (Ar w3 a g W 1) := hA2.below b23
       have B3 : Hid (Below g0 w0 w3) := B2.out.trans (b23.mono (by omega))
       clear hb2 hA2 b23 B2 B1 R1)
    | (refine wpList_store_row rfl 29 _ _ rfl l lv rfl rfl 29 #[.int .i64 0, .int .i64 0, .int .i64 0, .int .i64 0, .int .i64 0, .int .i64 0, .int .i64 0, .int .i64 0, .int .i64 0, .int .i64 0, .int .i64 0, .int .i64 0, .int .i64 0, .int .i64 0, .int .i64 0, .int .i64 0, .int .i64 0, .int .i64 0, .int .i64 0, .int .i64 0, .int .i64 0, .int .i64 0, .int .i64 0] L3.out HLS.out (by first | exact HL0.out | exact HL0.out.symm) HL1.out ?_))
  obtain ⟨w4, hw4⟩ : ∃ w4, w3.setRow l lv = w4 := ⟨_, rfl⟩
  have L4 : Hid (w4.heap[l]? = some (.cells lv 29 (0, 0))) := by rw [← hw4]; exact setRow_same L3.out
  have A4 : Hid (Ar w4 a g W 1) := by rw [← hw4]; exact A3.out.kept (setRow_other _ _ _ _ HAG.out.2.1) (setRow_other _ _ _ _ HAG.out.2.2.1)
  have B4 : Hid (Below g0 w0 w4) := by rw [← hw4]; exact setRow_below B3.out hgl _
  rw [hw4]
  have s4 : Hid (g0 ≤ w4.heap.size) := by have := B4.out.size; rw [Hid]; omega
  clear hw4 L3 A3 B3 hw3 hw1 s1
  go_upto_region 3 with (first
    | (go_at_call 19; refine (load_any A4.out (by omega) 1).mono ?_; rintro e w5 ⟨rfl, ha5, hc5⟩
       rw [HLD.out]
       have A5 : Hid (Ar w5 a g W 2) := by have e2 : (1 : Int) + cnt W 1 = 2 := by unfold cnt; rw [HIN.out]; rfl
                                           rw [e2] at ha5; exact ha5
       have L5 : Hid (w5.heap[l]? = some (.cells lv 29 (0, 0))) := (hc5.block l (Array.getElem?_eq_some_iff.1 L4.out).1 (fun hh => by have := HAG.out; omega)).trans L4.out
       have B5 : Hid (Below g0 w0 w5) := B4.out.trans (hc5.below s4.out (fun k hk => by have := HAG.out; omega))
       have s5 : Hid (g0 ≤ w5.heap.size) := by have := B5.out.size; rw [Hid]; omega
       clear ha5 hc5 A4 L4 B4 s4))
  refine start_ (n := 8) (S := fun w' => w'.heap[l]? = some (.cells lv 29 (0, 0))) (ds := []) #[false, false, false, false, false, false, false, false] (by kernel_rfl) rfl rfl L5.out (fun hHeld => ?_)
  refine take_ (i := 0) (N := (some 31)) (v := .agg lv.toList.toArray) (a' := ?_) #[true, false, false, false, false, false, false, false] rfl rfl (by kernel_rfl) (fun _ _ _ h => h) (by exact yieldsIf_load_mid rfl 29 _ rfl l 0 rfl lv.toList _ (fun w' s0 => row_range s0 0 _ (fun j v h => by rw [Nat.zero_add]; simpa using h)) Tryz.underlying29 rfl HLS.out) hHeld ?_ ?_
  rotate_left
  · simp only [Act.put, List.setIfInBounds_toArray, List.set_cons_zero, List.set_cons_succ, i64_w, i32_w]
    rfl
  refine take_ (i := 1) (N := (some 32)) (v := .agg lv.toList.toArray) (a' := ?_) #[true, true, false, false, false, false, false, false] rfl rfl (by kernel_rfl) (fun _ _ _ h => h) (by exact yieldsIf_load_mid rfl 29 _ rfl l 0 rfl lv.toList _ (fun w' s0 => row_range s0 0 _ (fun j v h => by rw [Nat.zero_add]; simpa using h)) Tryz.underlying29 rfl HLS.out) hHeld ?_ ?_
  rotate_left
  · simp only [Act.put, List.setIfInBounds_toArray, List.set_cons_zero, List.set_cons_succ, i64_w, i32_w]
    rfl
  refine pure_ (i := 3) (N := (some 34)) (v := ?_) (a' := ?_) #[true, true, false, true, false, false, false, false] rfl rfl (by kernel_rfl) (fun _ _ _ h => h) (Or.inl ⟨by rfl, ?_⟩) ?_ ?_
  rotate_left
  · intro w'
    go_simp
    with_reducible rfl
  rotate_left
  · simp only [Act.put, List.setIfInBounds_toArray, List.set_cons_zero, List.set_cons_succ, i64_w, i32_w]
    rfl
  refine one_ (i := 2) (N := (some 33)) #[true, true, true, true, false, false, false, false] rfl rfl (by kernel_rfl) (by decide) (fun K hK => ?_)
  refine goes_ Tryz.func15 (by kernel_rfl) rfl #[.agg lv, .int .i64 0] (by rfl) rfl rfl (by first | rfl | (simp [Act.eval]; done) | (go_simp; done)) ?_
  refine (HTB.out w5.drew).mono ?_
  rintro e w6 ⟨rfl, hb5⟩
  have b45 : Below w5.heap.size w5 w6 := (show Below w5.heap.size w5 w5.drew from (Below.refl _ _).drew).trans hb5
  have L6 : w6.heap[l]? = some (.cells lv 29 (0, 0)) := blk_below L5.out b45
  have A6 : Hid (Ar w6 a g W 2) := A5.out.below b45
  have B6 : Hid (Below g0 w0 w6) := B5.out.trans (b45.mono s5.out)
  have s6 : Hid (g0 ≤ w6.heap.size) := by have := B6.out.size; rw [Hid]; omega
  clear b45 hb5
  refine ⟨_, rfl, ?_⟩
  refine hK.out _ _ L6 (fun hHeld => ?_)
  clear hK K
  refine norm_ (a' := ?_) ?_ ?_
  rotate_left
  · show Act.put _ (some 33) _ = _
    simp only [Act.put, List.setIfInBounds_toArray, List.set_cons_zero, List.set_cons_succ, i64_w, i32_w]
    rfl
  refine one_ (i := 4) (N := (some 35)) #[true, true, true, true, true, false, false, false] rfl rfl (by kernel_rfl) (by decide) (fun K hK => ?_)
  refine goes_ Tryz.func14 (by kernel_rfl) rfl #[.int .i64 tb, v2] (by rfl) rfl rfl (by first | rfl | (simp [Act.eval]; done) | (go_simp; done)) ?_
  refine (fit_any HTI.out ((HST.out.below B6.out).mono s6.out) HSI.out).mono ?_
  rintro e w7 ⟨vf, rfl, hf6, hb6⟩
  obtain ⟨Af, cf, rfl, -⟩ := id hf6
  have L7 : w7.heap[l]? = some (.cells lv 29 (0, 0)) := blk_below L6 hb6
  have A7 : Hid (Ar w7 a g W 2) := A6.out.below hb6
  have B7 : Hid (Below g0 w0 w7) := B6.out.trans (hb6.mono s6.out)
  have s7 : Hid (g0 ≤ w7.heap.size) := by have := B7.out.size; rw [Hid]; omega
  have I7 := Lib.hid hf6
  have s67 : Hid (a < w6.heap.size ∧ g < w6.heap.size ∧ l < w6.heap.size ∧ w6.heap.size ≤ w7.heap.size ∧ ∀ k, (Value.slice Af (fits tb is).length cf).ownBlock = some k → w6.heap.size ≤ k) := ⟨A6.out.lt.1, A6.out.lt.2, (Array.getElem?_eq_some_iff.1 L6).1, hb6.size, fun k hk => hf6.block hk⟩
  clear hb6 hf6
  refine ⟨_, rfl, ?_⟩
  refine hK.out _ _ L7 (fun hHeld => ?_)
  clear hK K
  refine norm_ (a' := ?_) ?_ ?_
  rotate_left
  · show Act.put _ (some 35) _ = _
    simp only [Act.put, List.setIfInBounds_toArray, List.set_cons_zero, List.set_cons_succ, i64_w, i32_w]
    rfl
  refine one_ (i := 5) (N := (some 36)) #[true, true, true, true, true, true, false, false] rfl rfl (by kernel_rfl) (by decide) (fun K hK => ?_)
  refine goes_ Tryz.func13 (by kernel_rfl) rfl #[.slice Af (fits tb is).length cf] (by rfl) rfl rfl (by first | rfl | (simp [Act.eval]; done) | (go_simp; done)) ?_
  refine (prog_made Af _ cf w7).mono ?_
  rintro e w8 ⟨pc, rfl, hpc, hrow, hb7⟩
  have L8 : w8.heap[l]? = some (.cells lv 29 (0, 0)) := blk_below L7 hb7
  have A8 : Hid (Ar w8 a g W 2) := A7.out.below hb7
  have B8 : Hid (Below g0 w0 w8) := B7.out.trans (hb7.mono s7.out)
  have s8 : Hid (g0 ≤ w8.heap.size) := by have := B8.out.size; rw [Hid]; omega
  have I8 : Hid (ITold w8 w6.heap.size (fits tb is) (.slice Af (fits tb is).length cf)) := I7.out.kept (fun k hk => hb7.block k (I7.out.own_lt hk))
  have PR8 := Lib.hid hrow
  have s78 : Hid (w7.heap.size ≤ pc) := hpc
  clear hb7 hrow
  refine ⟨_, rfl, ?_⟩
  refine hK.out _ _ L8 (fun hHeld => ?_)
  clear hK K
  refine norm_ (a' := ?_) ?_ ?_
  rotate_left
  · show Act.put _ (some 36) _ = _
    simp only [Act.put, List.setIfInBounds_toArray, List.set_cons_zero, List.set_cons_succ, i64_w, i32_w]
    rfl
  refine one_ (i := 6) (N := (some 37)) #[true, true, true, true, true, true, true, false] rfl rfl (by kernel_rfl) (by decide) (fun K hK => ?_)
  refine goes_ Tryz.func12 (by kernel_rfl) rfl #[.agg lv, .int .i64 0, progV pc] (by rfl) rfl rfl (by first | rfl | (simp [Act.eval]; done) | (go_simp; done)) ?_
  refine (HMD.out pc w8).mono ?_
  rintro e w9 ⟨b, rfl, hbl, hbs, hR, hb8⟩
  have L9 : w9.heap[l]? = some (.cells lv 29 (0, 0)) := blk_below L8 hb8
  have A9 : Hid (Ar w9 a g W 2) := A8.out.below hb8
  have B9 : Hid (Below g0 w0 w9) := B8.out.trans (hb8.mono s8.out)
  have O9 : Hid (LoneW w9 (fun k => k < g0 ∨ k = l ∨ k = pc ∨ (Value.slice Af (fits tb is).length cf).ownBlock = some k) b a g c0 y is 0 (newT 0)) := by
    have hs8 := hb8.size
    have i8 := I8.out
    have p8 := PR8.out
    have pl8 := (Array.getElem?_eq_some_iff.1 p8).1
    have q := s67.out
    have q2 := s78.out
    have l8 := (Array.getElem?_eq_some_iff.1 L8).1
    have zz := HAG.out
    have s8' := s8.out
    refine loneW_new HE.out HTI.out HSI.out hR A9.out (by omega) (blk_below p8 hb8) (i8.kept (fun k hk => hb8.block k (i8.own_lt hk))) (fun k hk => ?_) (fun k hk => .inr (.inr hk))
    rcases hk with hk | rfl | rfl | hk
    · omega
    · omega
    · omega
    · have := i8.own_lt hk; have := q.2.2.2.2 k hk; omega
  clear hb8 hR I8 PR8
  refine ⟨_, rfl, ?_⟩
  refine hK.out _ _ L9 (fun hHeld => ?_)
  clear hK K
  refine norm_ (a' := ?_) ?_ ?_
  rotate_left
  · show Act.put _ (some 37) _ = _
    simp only [Act.put, List.setIfInBounds_toArray, List.set_cons_zero, List.set_cons_succ, i64_w, i32_w]
    rfl
  refine pure_ (i := 7) (N := (some 12)) (v := ?_) (a' := ?_) #[true, true, true, true, true, true, true, true] rfl rfl (by kernel_rfl) (fun _ _ _ h => h) (Or.inl ⟨by rfl, ?_⟩) ?_ ?_
  rotate_left
  · intro w'
    go_simp
    with_reducible rfl
  rotate_left
  · simp only [Act.put, List.setIfInBounds_toArray, List.set_cons_zero, List.set_cons_succ, i64_w, i32_w]
    rfl
  refine done_ (by kernel_rfl) ?_
  have sp : ∀ j, (fun k => k < g0 ∨ k = l ∨ k = pc ∨ (Value.slice Af (fits tb is).length cf).ownBlock = some k) j ↔ (fun k => k < g0 ∨ k = l ∨ k = pc ∨ (Value.slice Af (fits tb is).length cf).ownBlock = some k) j := fun _ => Iff.rfl
  obtain ⟨SS, hSS⟩ : ∃ SS : Nat → Prop, (fun k => k < g0 ∨ k = l ∨ k = pc ∨ (Value.slice Af (fits tb is).length cf).ownBlock = some k) = SS := ⟨_, rfl⟩
  have S0 : Hid (∀ k, k < g0 → SS k) := by rw [← hSS]; exact fun k h => .inl h
  have SL : Hid (SS l) := by rw [← hSS]; exact .inr (.inl rfl)
  rw [hSS] at O9
  clear sp hSS I7 s67 s78
  have HL9 := Lib.hid L9
  clear L9
  go_upto_region 6 with (first
    | (go_at_call 28; refine (loneW_count O9.out).mono ?_; rintro e wa ⟨rfl, hb⟩
       have Oa : Hid (LoneW wa SS b a g c0 y is 0 (newT 0)) := O9.out.below hb
       have La : Hid (wa.heap[l]? = some (.cells lv 29 (0, 0))) := blk_below HL9.out hb
       have Ba : Hid (Below g0 w0 wa) := B9.out.trans (hb.mono (by have := B9.out.size; omega))
       clear hb O9 HL9 B9))
  go_loopw [14] (fun u14 wr => ∃ (k : Nat) (T : AT), u14 = .int .i64 k ∧ T.phase ≠ 10 ∧ Hid (LoneW wr SS b a g c0 y is k T) ∧ Hid (wr.heap[l]? = some (.cells lv 29 (0, 0))) ∧ Hid (Below g0 w0 wr)) (fun u14 _ => 400 - (intOf u14).toNat)
  case atStart => exact ⟨0, newT 0, rfl, by show (0 : Int) ≠ 10; omega, Oa, La, Ba⟩
  case round =>
    clear Oa La Ba
    obtain ⟨k, T, rfl, hp, HO, HL, HB⟩ := hrel
    have hk := loneW_k HO.out
    have STP := Lib.hid (loneW_step HSI.out HO.out hp)
    have gsz : g0 ≤ wr.heap.size := by have := HB.out.size; omega
    clear hp
    go_upto_region 9 with (first
      | (go_at_call 16; refine STP.out.mono ?_; rintro e w11 ⟨T', rfl, hO, hC⟩
         have OD := Lib.hid hO
         have LD : Hid (w11.heap[l]? = some (.cells lv 29 (0, 0))) := (hC.block l (loneW_low HO.out l SL.out) (fun h => h SL.out)).trans HL.out
         have BD : Hid (Below g0 w0 w11) := HB.out.trans (hC.below gsz (fun j hj => Nat.le_of_not_lt fun hlt => hj (S0.out j hlt)))
         have alt : (T'.phase ≠ 10 ∧ told T' = 0) ∨ (T'.phase = 10 ∧ told T' = 3) ∨ (T'.phase = 10 ∧ told T' = 1) := by
           by_cases h10 : T'.phase = 10
           · exact .inr ((loneW_end hO h10).2.1.imp (fun h => ⟨h10, h⟩) (fun h => ⟨h10, h⟩))
           · exact .inl ⟨h10, by unfold told; rw [if_neg h10]⟩
         clear hO hC STP HO HL HB
         rcases alt with ⟨h10, ht⟩ | ⟨h10, ht⟩ | ⟨h10, ht⟩ <;> rw [ht]))
    · refine ⟨⟨k + 1, T', by go_num, h10, OD, LD, BD⟩, ?_⟩
      simp [intOf]; omega
    all_goals (
      obtain ⟨E1, E2, E3, E4, E5⟩ := HLE.out _ _ _ _ _ _ _ OD.out h10
      rw [ht] at E1
      have HE5 := Lib.hid E5; have HE3 := Lib.hid E3; have HE4 := Lib.hid E4
      have hge : decide (c1.clock ≤ x) = decide (told T' = 3) := by rw [ht]; exact E1.symm
      rw [ht] at hge
      clear E1 E2 E3 E4 E5 HLE
      go_upto_region 14 with (first
        | (go_at_call 28; refine (loneW_count OD.out).mono ?_; rintro e wa ⟨rfl, hb⟩
           have Oa : Hid (LoneW wa SS b a g c0 y is (k + 1) T') := OD.out.below hb
           have La : Hid (wa.heap[l]? = some (.cells lv 29 (0, 0))) := blk_below LD.out hb
           have Ba : Hid (Below g0 w0 wa) := BD.out.trans (hb.mono (by have := BD.out.size; omega))
           clear hb OD LD BD)
        | (go_at_call 16; refine (loneW_over Oa.out h10 _).mono ?_; rintro e wb ⟨rfl, hb⟩
           rw [ht]
           have Ob : Hid (LoneW wb SS b a g c0 y is (k + 1) T') := Oa.out.below hb
           have Lb : Hid (wb.heap[l]? = some (.cells lv 29 (0, 0))) := blk_below La.out hb
           have Bb : Hid (Below g0 w0 wb) := Ba.out.trans (hb.mono (by have := Ba.out.size; omega))
           clear hb Oa La Ba)
        | (go_at_call 28; refine (loneW_count Ob.out).mono ?_; rintro e wc ⟨rfl, hb⟩
           have Oc : Hid (LoneW wc SS b a g c0 y is (k + 1) T') := Ob.out.below hb
           have Lc : Hid (wc.heap[l]? = some (.cells lv 29 (0, 0))) := blk_below Lb.out hb
           have Bc : Hid (Below g0 w0 wc) := Bb.out.trans (hb.mono (by have := Bb.out.size; omega))
           clear hb Ob Lb Bb)
        | (refine wpList_load_row_if rfl 29 _ rfl l rfl 29 lv (0, 0) _ Lc.out Tryz.underlying29 rfl HLS.out ?_)
        | (go_at_call 20; refine (HCF.out _).mono ?_; rintro e wE ⟨rfl, hb⟩
           have OE : Hid (LoneW wE SS b a g c0 y is (k + 1) T') := Oc.out.below hb
           have LE : Hid (wE.heap[l]? = some (.cells lv 29 (0, 0))) := blk_below Lc.out hb
           have BE : Hid (Below g0 w0 wE) := Bc.out.trans (hb.mono (by have := Bc.out.size; omega))
           have sE : Hid (g0 ≤ wE.heap.size) := by have := BE.out.size; rw [Hid]; omega
           clear hb Oc Lc Bc))
      obtain ⟨rn, hrn⟩ : ∃ rn, T'.reads.length = rn := ⟨_, rfl⟩
      obtain ⟨wn, hwn⟩ : ∃ wn, (wroteB T').length = wn := ⟨_, rfl⟩
      rw [hrn] at HE3 HE5
      rw [hwn] at HE4 HE5
      have HRN := Lib.hid hrn; have HWN := Lib.hid hwn
      clear hrn hwn
      refine start_ (n := 12) (S := fun w' => w'.heap[l]? = some (.cells lv 29 (0, 0))) (ds := []) #[false, false, false, false, false, false, false, false, false, false, false, false] (by kernel_rfl) rfl rfl LE.out (fun hHeld => ?_)
      refine pure_ (i := 0) (N := (some 81)) (v := ?_) (a' := ?_) #[true, false, false, false, false, false, false, false, false, false, false, false] rfl rfl (by kernel_rfl) (fun _ _ _ h => h) (Or.inl ⟨by rfl, ?_⟩) ?_ ?_
      rotate_left
      · intro w'
        go_simp
        with_reducible rfl
      rotate_left
      · simp only [Act.put, List.setIfInBounds_toArray, List.set_cons_zero, List.set_cons_succ, i64_w, i32_w]
        rfl
      refine pure_ (i := 3) (N := (some 84)) (v := ?_) (a' := ?_) #[true, false, false, true, false, false, false, false, false, false, false, false] rfl rfl (by kernel_rfl) (fun _ _ _ h => h) (Or.inl ⟨by rfl, ?_⟩) ?_ ?_
      rotate_left
      · intro w'
        go_simp
        with_reducible rfl
      rotate_left
      · simp only [Act.put, List.setIfInBounds_toArray, List.set_cons_zero, List.set_cons_succ, i64_w, i32_w]
        rfl
      refine take_ (i := 6) (N := (some 87)) (v := .agg lv.toList.toArray) (a' := ?_) #[true, false, false, true, false, false, true, false, false, false, false, false] rfl rfl (by kernel_rfl) (fun _ _ _ h => h) (by exact yieldsIf_load_mid rfl 29 _ rfl l 0 rfl lv.toList _ (fun w' s0 => row_range s0 0 _ (fun j v h => by rw [Nat.zero_add]; simpa using h)) Tryz.underlying29 rfl HLS.out) hHeld ?_ ?_
      rotate_left
      · simp only [Act.put, List.setIfInBounds_toArray, List.set_cons_zero, List.set_cons_succ, i64_w, i32_w]
        rfl
      refine one_ (i := 1) (N := (some 82)) #[true, true, false, true, false, false, true, false, false, false, false, false] rfl rfl (by kernel_rfl) (by decide) (fun K hK => ?_)
      refine goes_ Tryz.func29 (by kernel_rfl) rfl #[.pointer (some ⟨b, 0, none⟩)] (by rfl) rfl rfl (by first | rfl | (simp [Act.eval]; done) | (go_simp; done)) ?_
      refine (loneW_reads (OE.out.below (show Below wE.heap.size wE wE.drew from (Below.refl _ _).drew))).mono ?_
      rintro e wF ⟨Ar1, cr1, rfl, hbF⟩
      rw [HRN.out]
      have bEF : Below wE.heap.size wE wF := (show Below wE.heap.size wE wE.drew from (Below.refl _ _).drew).trans hbF
      have LF : wF.heap[l]? = some (.cells lv 29 (0, 0)) := blk_below LE.out bEF
      have OF : Hid (LoneW wF SS b a g c0 y is (k + 1) T') := OE.out.below bEF
      have BF : Hid (Below g0 w0 wF) := BE.out.trans (bEF.mono sE.out)
      have sF : Hid (g0 ≤ wF.heap.size) := by have := BF.out.size; rw [Hid]; omega
      clear bEF hbF
      refine ⟨_, rfl, ?_⟩
      refine hK.out _ _ LF (fun hHeld => ?_)
      clear hK K
      refine norm_ (a' := ?_) ?_ ?_
      rotate_left
      · show Act.put _ (some 82) _ = _
        simp only [Act.put, List.setIfInBounds_toArray, List.set_cons_zero, List.set_cons_succ, i64_w, i32_w]
        rfl
      refine pure_ (i := 2) (N := (some 83)) (v := ?_) (a' := ?_) #[true, true, true, true, false, false, true, false, false, false, false, false] rfl rfl (by kernel_rfl) (fun _ _ _ h => h) (Or.inl ⟨by rfl, ?_⟩) ?_ ?_
      rotate_left
      · intro w'
        go_simp
        with_reducible rfl
      rotate_left
      · simp only [Act.put, List.setIfInBounds_toArray, List.set_cons_zero, List.set_cons_succ, i64_w, i32_w]
        rfl
      refine one_ (i := 4) (N := (some 85)) #[true, true, true, true, true, false, true, false, false, false, false, false] rfl rfl (by kernel_rfl) (by decide) (fun K hK => ?_)
      refine goes_ Tryz.func24 (by kernel_rfl) rfl #[.pointer (some ⟨b, 0, none⟩)] (by rfl) rfl rfl (by first | rfl | (simp [Act.eval]; done) | (go_simp; done)) ?_
      refine (loneW_writes OF.out).mono ?_
      rintro e wG ⟨Aw1, cw1, rfl, hbG⟩
      rw [HWN.out]
      have LG : wG.heap[l]? = some (.cells lv 29 (0, 0)) := blk_below LF hbG
      have BG : Hid (Below g0 w0 wG) := BF.out.trans (hbG.mono sF.out)
      have sG : Hid (g0 ≤ wG.heap.size) := by have := BG.out.size; rw [Hid]; omega
      clear hbG
      refine ⟨_, rfl, ?_⟩
      refine hK.out _ _ LG (fun hHeld => ?_)
      clear hK K
      refine norm_ (a' := ?_) ?_ ?_
      rotate_left
      · show Act.put _ (some 85) _ = _
        simp only [Act.put, List.setIfInBounds_toArray, List.set_cons_zero, List.set_cons_succ, i64_w, i32_w]
        rfl
      refine pure_ (i := 5) (N := (some 86)) (v := ?_) (a' := ?_) #[true, true, true, true, true, true, true, false, false, false, false, false] rfl rfl (by kernel_rfl) (fun _ _ _ h => h) (Or.inl ⟨by rfl, ?_⟩) ?_ ?_
      rotate_left
      · intro w'
        go_simp
        with_reducible rfl
      rotate_left
      · simp only [Act.put, List.setIfInBounds_toArray, List.set_cons_zero, List.set_cons_succ, i64_w, i32_w]
        rfl
      refine one_ (i := 7) (N := (some 88)) #[true, true, true, true, true, true, true, true, false, false, false, false] rfl rfl (by kernel_rfl) (by decide) (fun K hK => ?_)
      refine goes_ Tryz.func20 (by kernel_rfl) rfl #[.agg lv] (by rfl) rfl rfl (by first | rfl | (simp [Act.eval]; done) | (go_simp; done)) ?_
      refine (HCF.out wG).mono ?_
      rintro e wH ⟨rfl, hbH⟩
      have LH : wH.heap[l]? = some (.cells lv 29 (0, 0)) := blk_below LG hbH
      have BH : Hid (Below g0 w0 wH) := BG.out.trans (hbH.mono sG.out)
      have sH : Hid (g0 ≤ wH.heap.size) := by have := BH.out.size; rw [Hid]; omega
      clear hbH
      refine ⟨_, rfl, ?_⟩
      refine hK.out _ _ LH (fun hHeld => ?_)
      clear hK K
      refine norm_ (a' := ?_) ?_ ?_
      rotate_left
      · show Act.put _ (some 88) _ = _
        simp only [Act.put, List.setIfInBounds_toArray, List.set_cons_zero, List.set_cons_succ, i64_w, i32_w]
        rfl
      refine pure_ (i := 8) (N := (some 89)) (v := ?_) (a' := ?_) #[true, true, true, true, true, true, true, true, true, false, false, false] rfl rfl (by kernel_rfl) (fun _ _ _ h => h) (Or.inl ⟨by rfl, ?_⟩) ?_ ?_
      rotate_left
      · intro w'
        go_simp
        with_reducible rfl
      rotate_left
      · simp only [Act.put, List.setIfInBounds_toArray, List.set_cons_zero, List.set_cons_succ, i64_w, i32_w]
        rfl
      refine pure_ (i := 9) (N := (some 16)) (v := ?_) (a' := ?_) #[true, true, true, true, true, true, true, true, true, true, false, false] rfl rfl (by kernel_rfl) (fun _ _ _ h => h) (Or.inl ⟨by rfl, ?_⟩) ?_ ?_
      rotate_left
      · intro w'
        go_simp
        with_reducible rfl
      rotate_left
      · simp only [Act.put, List.setIfInBounds_toArray, List.set_cons_zero, List.set_cons_succ, i64_w, i32_w]
        rfl
      refine pure_ (i := 10) (N := (some 17)) (v := ?_) (a' := ?_) #[true, true, true, true, true, true, true, true, true, true, true, false] rfl rfl (by kernel_rfl) (fun _ _ _ h => h) (Or.inl ⟨by rfl, ?_⟩) ?_ ?_
      rotate_left
      · intro w'
        go_simp
        with_reducible rfl
      rotate_left
      · simp only [Act.put, List.setIfInBounds_toArray, List.set_cons_zero, List.set_cons_succ, i64_w, i32_w]
        rfl
      refine pure_ (i := 11) (N := (some 18)) (v := ?_) (a' := ?_) #[true, true, true, true, true, true, true, true, true, true, true, true] rfl rfl (by kernel_rfl) (fun _ _ _ h => h) (Or.inl ⟨by rfl, ?_⟩) ?_ ?_
      rotate_left
      · intro w'
        go_simp
        with_reducible rfl
      rotate_left
      · simp only [Act.put, List.setIfInBounds_toArray, List.set_cons_zero, List.set_cons_succ, i64_w, i32_w]
        rfl
      refine done_ (by kernel_rfl) ?_
      have hb5 := HE5.out; have hb3 := HE3.out; have hb4 := HE4.out
      have x1 : wrap64 (3 * (rn : Int)) = 3 * rn := IntWalk.wrap64_in _ (by omega)
      have x2 : wrap64 (2 + 3 * (rn : Int)) = 2 + 3 * rn := IntWalk.wrap64_in _ (by omega)
      have x3 : wrap64 (4 * c1.stripes) = 4 * c1.stripes := IntWalk.wrap64_in _ (by omega)
      have x4 : wrap64 (2 + 3 * (rn : Int) + 4 * c1.stripes) = 2 + 3 * rn + 4 * c1.stripes := IntWalk.wrap64_in _ (by omega)
      have x5 : wrap64 (2 + 3 * (rn : Int) + 4 * c1.stripes + wn) = 2 + 3 * rn + 4 * c1.stripes + wn := IntWalk.wrap64_in _ (by omega)
      have x6 : decide (((k + 1 : Nat) : Int) ≤ 2 + 3 * (rn : Int) + 4 * c1.stripes + wn) = true := by simp; omega
      have x7 : decide ((k : Int) + 1 ≤ 2 + 3 * (rn : Int) + 4 * c1.stripes + wn) = true := by simp; omega
      clear hb5 hb3 hb4
      go_wp2_with (first
        | (go_at_call 17; refine (LN.out _).mono ?_; rintro e wz ⟨rfl, hb⟩
           have BZ : Hid (Below g0 w0 wz) := BH.out.trans (hb.mono sH.out)
           clear hb BH sH))
      go_ret
      exact ⟨rfl, BZ.out⟩)

set_option maxRecDepth 100000 in
theorem walk {H : Type} {enc : TypeId × Value → H} {base : Nat} {spare : Nat → Bool} {held : Bool} {d0 d2 : DataW H} {p0 p2 : List MemPlace} {r : Reach} {b0 : Nat} (v0 : Value) (y : Int) (v2 : Value) (w : World)
    (hv0 : Value.okWide Tryz.prog w r b0 23 v0) (t0 : DataW.Trod enc Tryz.prog w base spare held 23 v0 d0 p0) (_hy : (Lit.int .i64 y).wf = true)
    (hv2 : Value.okWide Tryz.prog w r b0 40 v2) (t2 : DataW.Trod enc Tryz.prog w base spare held 40 v2 d2 p2) :
    Calls Tryz.prog 6 #[v0, .int .i64 y, v2] w fun e w' => e = .returned (.bool true) ∧ Below w.heap.size w w' := by
  obtain ⟨c, rfl⟩ := Lay.cfg_of hv0 t0
  obtain ⟨l, h3, h4⟩ := steps_of hv2 t2
  exact walk_in h3 h4
end Steps22
end Att
end Go.Proofs.YthojgahcpkdemaaGreat

/- PROVED HERE: 'assart/assartlaw22.AttemptSteps' returns true for every input, without a panic, and its arguments read behind the call as they read before (Each step of an attempt that is under way is one access, and one that is over makes none; alone it is done, if the clock can go on, within as many steps as its words ask for). Condition: none beyond the row's own. -/
namespace Go.Proofs.YthojgahcpkdemaaGreat
namespace FrAttemptSteps
open Go.ChangeShapes Go.WideShapes Go.ChangeAt Go.RowKit
open Go.ChangeMaps (open_string shut_string)
set_option linter.unusedVariables false

theorem own : ownKnob Tryz.prog.godebug = none := by kernel_rfl
theorem laidOut : laidOutB Tryz.prog = true := by kernel_rfl

set_option maxRecDepth 100000 in
theorem lifted (os : Os) (started : os.Started) (H : Type) (enc : TypeId × Value → H) :
    ReturnsInHanded {} Tryz.checked os 6 .any (Rows.attemptStepsSpec.pre6 enc Tryz.prog Tryz.f6 Rows.attemptStepsRow.domain false) (Rows.attemptStepsSpec.post enc Tryz.prog Tryz.f6 false true false false) := by
  refine returnsInHanded_of_change (C := Tryz.checked) own started (by kernel_rfl) Tryz.func6
    (ChangeSpec.witness6 (enc := enc) (C := Tryz.checked) false ⟨#[], #[.agg #[.int .i64 0, .int .i64 0, .int .i64 0, .int .i64 0, .int .i64 0, .int .i64 0, .int .i64 0, .int .i64 0, .int .i64 0, .int .i64 0, .int .i64 0], .int .i64 0, .slice none 0 0], []⟩ 8 (by kernel_rfl) (by kernel_rfl) (by kernel_rfl) (by kernel_rfl)) ?_
  intro W base args ds gs before hval0 hW hcnd _
  have hval : ∀ (j : Nat) t v, Tryz.f6.params[j]? = some t → args[j]? = some v → Value.okWide Tryz.prog W .any base t v := hval0
  have hW' := hW
  obtain ⟨p, q, hA0, hV, rfl, hfz, hnd⟩ := hW
  have hA : DataW.TrodAll enc Tryz.prog W 0 (fun _ => true) true Tryz.f6.params.toList args.toList ds p := hA0
  rw [Tryz.params6] at hA hval
  obtain ⟨v0, vs0, d0, ds0, p0, q0, hargs, rfl, rfl, h0, r0⟩ := trodAll_cons hA
  obtain ⟨v1, vs1, d1, ds1, p1, q1, rfl, rfl, rfl, h1, r1⟩ := trodAll_cons r0
  obtain ⟨v2, vs2, d2, ds2, p2, q2, rfl, rfl, rfl, h2, r2⟩ := trodAll_cons r1
  obtain ⟨rfl, rfl, rfl⟩ := trodAll_nil r2
  obtain rfl : args = #[v0, v1, v2] := by cases args; simp_all
  obtain ⟨rfl, rfl⟩ := trodVars_none hV
  have k0 := h0
  have lt0 : ∀ x ∈ p0, x.block < W.heap.size := by obtain ⟨m, hm⟩ := k0; exact DataW.trod_lt m _ _ _ hm
  obtain ⟨a1, rfl, rfl, rfl, w1⟩ := open_int Tryz.underlying3 (hval 1 3 v1 rfl rfl) h1
  have k2 := h2
  have lt2 : ∀ x ∈ p2, x.block < W.heap.size := by obtain ⟨m, hm⟩ := k2; exact DataW.trod_lt m _ _ _ hm
  clear hA0 hval0
  refine (Att.Steps22.walk v0 a1 v2 W (hval 0 23 v0 rfl rfl) h0 w1 (hval 2 40 v2 rfl rfl) h2).mono fun e W' ⟨he, bel⟩ => ?_
  subst he
  exact ⟨_, rfl, _, _, _, [], _, [], hW', trodAll_mk1 (shut_bool Tryz.underlying4 _), (trodAll_cons_mk (Below.trod laidOut (by kernel_rfl) (of_decide_eq_true (by kernel_rfl)) k0 bel lt0) (trodAll_cons_mk (shut_int Tryz.underlying3 w1) (trodAll_cons_mk (Below.trod laidOut (by kernel_rfl) (of_decide_eq_true (by kernel_rfl)) k2 bel lt2) trodAll_mk0))), rfl, bel.frame _, fun h => by cases h⟩

theorem over : Rows.attemptStepsRow.holds Tryz.pinned (OpenSpec.ofChange Rows.attemptStepsSpec) :=
  OpenClaim.holds_of_wide 6 Tryz.f6 rfl rfl rfl rfl rfl rfl rfl ⟨rfl, rfl, rfl, rfl, rfl⟩ rfl rfl rfl rfl rfl (by kernel_rfl) Tryz.func6 (by kernel_rfl)
    (of_decide_eq_true (by kernel_rfl)) (by unfold Func.isWrapper; first | (rw [if_pos (by decide +kernel)]; kernel_rfl) | (rw [if_neg (by decide +kernel)]; exact ⟨rfl, rfl⟩))
    (fun os started H enc _ => lifted os started H enc)

end FrAttemptSteps

theorem AttemptSteps_holds : Rows.AttemptStepsSaid := FrAttemptSteps.over
#print axioms AttemptSteps_holds
end Go.Proofs.YthojgahcpkdemaaGreat
