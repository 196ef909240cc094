/- Lemmas of this seat's proofs, several texts laid together. -/
import Derived.Test.YthojgahcpkdemaaGreatAfH
import Derived.Test.YthojgahcpkdemaaGreatAfJ
import Derived.Test.YthojgahcpkdemaaGreatAfI
import Derived.Test.YthojgahcpkdemaaGreatAfK
import Derived.Test.YthojgahcpkdemaaGreatAfB
import Derived.Deep.QuietTactic
import Derived.BigQuiet
import Derived.Deep.Slices
import Derived.Test.YthojgahcpkdemaaGreatAfE
import Derived.Test.YthojgahcpkdemaaGreatWLast
set_option linter.unusedVariables false
set_option linter.unusedSimpArgs false
/- an attempt alone, in plain -/
namespace Go.Proofs.YthojgahcpkdemaaGreat
open IMap_ VIn
namespace Att

theorem st_len' (W : List Int) (k x : Int) : (st W k x).length = W.length := len_st W k x
/-- each step's access is to a word that is there -/
theorem acc_in {E : Env} {lo : Int} {d : Nat} (G : Good E lo d) {T : AT} {W : List Int} (h : WF E lo d T) (hl : (W.length : Int) = E.words) (hp : T.phase ≠ 10) : inn W (acc E T) = true := by
  have G3 := G.lo3; have GS := G.str; have GF := G.fits
  have hph := h.ph
  have rng : ∀ a, 0 ≤ a → a < E.words → inn W a = true := fun a h0 h1 => inn_len hl h0 h1
  have lk : ∀ a, 0 ≤ a → a < E.words → inn W (lock E a) = true := fun a h0 h1 => by have := lock_in G h0 h1; exact rng _ (by omega) (by omega)
  have na : T.phase = 1 ∨ T.phase = 2 ∨ T.phase = 3 → 0 ≤ T.na ∧ T.na < E.words := fun hh => by
    rcases (h.needs hh).2.2 with ⟨_, e⟩ | ⟨_, e, _⟩ <;> omega
  unfold acc
  split
  · exact rng 1 (by omega) (by omega)
  split
  · rename_i c; have := na (.inl c); exact lk _ this.1 this.2
  split
  · rename_i c; have := na (.inr (.inl c)); exact rng _ this.1 this.2
  split
  · rename_i c; have := na (.inr (.inr c)); exact lk _ this.1 this.2
  have kin : 4 ≤ T.phase ∧ T.phase ≤ 9 → ∀ x ∈ T.locks, inn W x = true := fun hh x hx => by
    have H := h.held hh
    have := locks_in G (wr_in G H.2.2.2) x (by rw [← H.1]; exact hx)
    exact rng _ (by omega) (by omega)
  have gd : ∀ (l : List Int) (i : Nat), i < l.length → l.getD i 0 ∈ l := fun l i hi => by rw [List.getD_eq_getElem?_getD, List.getElem?_eq_getElem hi]; exact List.getElem_mem hi
  have gp : ∀ (l : M) (i : Nat), i < l.length → l.getD i (0, 0) ∈ l := fun l i hi => by rw [List.getD_eq_getElem?_getD, List.getElem?_eq_getElem hi]; exact List.getElem_mem hi
  split
  · rename_i c; exact kin (by omega) _ (gd _ _ (h.part (.inl c)))
  split
  · rename_i c; exact kin (by omega) _ (gd _ _ (h.part (.inr c)))
  split
  · exact rng 1 (by omega) (by omega)
  split
  · rename_i c
    have C := h.chk c
    have := C.2.2.2 _ (gd T.checks T.at_.toNat (by omega))
    exact rng _ (by omega) (by omega)
  split
  · rename_i c
    have C := h.sto c
    have := (h.wrote (by omega)).2.2.1 _ (gp T.writes T.at_.toNat (by omega))
    exact rng _ (by omega) (by omega)
  · have C := h.rel (by omega)
    have H := h.held (by omega)
    have hm := gp T.holds T.at_.toNat (by omega)
    have : (T.holds.getD T.at_.toNat (0, 0)).1 ∈ T.holds.map (·.1) := List.mem_map_of_mem hm
    rw [H.2.2.1] at this
    exact kin (by omega) _ (List.mem_of_mem_take this)

/-- words as they were at first -/
structure W0s (E : Env) (x : Int) (W : List Int) : Prop where
  clk : ld W 1 = x
  flag : ld W 2 = 0
  free : ∀ j, 3 ≤ j → j < 3 + E.stripes → ld W j = 0
structure Hi (E : Env) (x : Int) (l : List Int) (W : List Int) : Prop where
  clk : ld W 1 = x
  free : ∀ j, 3 ≤ j → j < 3 + E.stripes → j ∉ l → ld W j = 0
def rl (T : AT) : Int := T.reads.length
def hl (T : AT) : Int := T.holds.length
def ll (T : AT) : Int := T.locks.length
def cl (T : AT) : Int := T.checks.length
def wl (T : AT) : Int := T.writes.length
/-- an attempt alone, behind k steps -/
inductive Solo (E : Env) (x k : Int) (T : AT) (W : List Int) : Prop
  | p0 (h : T.phase = 0) (r : T.reads = []) (hk : k = 0) (hw : W0s E x W)
  | p1 (h : T.phase = 1) (s : T.seen = x) (hk : k = 1 + 3 * rl T) (hw : W0s E x W)
  | p2 (h : T.phase = 2) (s : T.seen = x) (w : T.was = 0) (hk : k = 2 + 3 * rl T) (hw : W0s E x W)
  | p3 (h : T.phase = 3) (s : T.seen = x) (w : T.was = 0) (hk : k = 3 + 3 * rl T) (hw : W0s E x W) (hn : T.na = 2 → T.nv = 0)
  | p4 (h : T.phase = 4) (s : T.seen = x) (hk : k = 1 + 3 * rl T + 2 * hl T) (hw : Hi E x (T.holds.map (·.1)) W)
  | p5 (h : T.phase = 5) (s : T.seen = x) (w : T.was = 0) (hk : k = 2 + 3 * rl T + 2 * hl T) (hw : Hi E x (T.holds.map (·.1)) W)
  | p6 (h : T.phase = 6) (s : T.seen = x) (hk : k = 1 + 3 * rl T + 2 * ll T) (hw : Hi E x (T.holds.map (·.1)) W)
  | p7 (h : T.phase = 7) (s : T.seen = x) (hk : k = 2 + 3 * rl T + 2 * ll T + T.at_) (hc : cl T ≤ E.stripes) (hw : ∀ j ∈ T.checks, ld W j = 0)
  | p8 (h : T.phase = 8) (hk : k = 2 + 3 * rl T + 2 * ll T + cl T + T.at_) (hc : cl T ≤ E.stripes)
  | p9 (h : T.phase = 9) (ho : T.how = 1) (hk : k = 2 + 3 * rl T + 2 * ll T + cl T + wl T + T.at_) (hc : cl T ≤ E.stripes)
  | p10 (h : T.phase = 10) (ho : T.how = 1) (hk : k ≤ 2 + 3 * rl T + 4 * E.stripes + wl T)

theorem fresh0 {x : Int} (h : 0 ≤ x) : freshB 0 x = true := by unfold freshB; simpa using h
theorem up_fresh {l : List Int} (h : Up l) {i : Nat} (hi : i < l.length) : l.getD i 0 ∉ l.take i := by
  intro hm
  have hn : (l.take (i + 1)).Nodup := h.nodup.sublist (List.take_sublist _ _)
  rw [List.take_succ_eq_append_getElem hi] at hn
  have := (List.nodup_append.1 hn).2.2
  rw [List.getD_eq_getElem?_getD, List.getElem?_eq_getElem hi] at hm
  exact this _ hm _ (List.mem_singleton.2 rfl) rfl

theorem solo_step {E : Env} {lo : Int} {d : Nat} (G : Good E lo d) {x : Int} (hx : 0 ≤ x ∧ x < E.clock) {k : Int} {T : AT} {W : List Int} (hO : Okk E lo d T W) (hS : Solo E x k T W) (hp : T.phase ≠ 10) : Solo E x (k + 1) (step E T W).1 (step E T W).2 := by
  have G3 := G.lo3; have GS := G.str; have GF := G.fits
  have f0 := fresh0 hx.1
  have hin1 : inn W 1 = true := inn_len hO.len (by omega) (by omega)
  have rls : ∀ r : M, ∀ p, ((r ++ [p]).length : Int) = (r.length : Int) + 1 := fun r p => by simp
  cases hS with
  | p0 h r hk hw =>
    have e : step E T W = (sees E T W, W) := by unfold step; rw [if_neg hp, if_pos h]
    rw [e]
    have e2 : sees E T W = { T with seen := ld W 1, na := 2, phase := 1 } := by unfold sees; simp only; rw [if_neg (by rw [hw.clk]; omega)]
    rw [e2]
    exact .p1 rfl hw.clk (by show k + 1 = 1 + 3 * (T.reads.length : Int); rw [r, hk]; rfl) hw
  | p1 h s hk hw =>
    have e : step E T W = (locked E T W, W) := by unfold step; rw [if_neg hp, if_neg (by omega), if_pos h]
    rw [e]
    have hna : 0 ≤ T.na ∧ T.na < E.words := by rcases (hO.wf.needs (.inl h)).2.2 with ⟨_, e⟩ | ⟨_, e, _⟩ <;> omega
    have hlk := lock_in G hna.1 hna.2
    have hw0 := hw.free _ hlk.1 hlk.2
    have e2 : locked E T W = { T with was := ld W (lock E T.na), phase := 2 } := by unfold locked; simp only; rw [hw0, s, if_pos f0]
    rw [e2]
    exact .p2 rfl s hw0 (by show k + 1 = 2 + 3 * rl T; omega) hw
  | p2 h s w hk hw =>
    have e : step E T W = (loads T W, W) := by unfold step; rw [if_neg hp, if_neg (by omega), if_neg (by omega), if_pos h]
    rw [e]
    exact .p3 rfl s w (by show k + 1 = 3 + 3 * rl T; omega) hw (fun hn => by have hn : T.na = 2 := hn; show ld W T.na = 0; rw [hn]; exact hw.flag)
  | p3 h s w hk hw hn =>
    have e : step E T W = (confirms E T W, W) := by unfold step; rw [if_neg hp, if_neg (by omega), if_neg (by omega), if_neg (by omega), if_pos h]
    rw [e]
    have hna : 0 ≤ T.na ∧ T.na < E.words := by rcases (hO.wf.needs (.inr (.inr h))).2.2 with ⟨_, e⟩ | ⟨_, e, _⟩ <;> omega
    have hlk := lock_in G hna.1 hna.2
    have hw0 := hw.free _ hlk.1 hlk.2
    have hh := (hO.wf.needs (.inr (.inr h))).2.1
    have e2 : confirms E T W = goesOn E { T with reads := T.reads ++ [(T.na, T.nv)] } := by
      unfold confirms; rw [if_neg]; rintro (c | ⟨c1, c2⟩)
      · exact c (by rw [hw0, w])
      · exact c2 (hn c1)
    rw [e2]
    have hr := rls T.reads (T.na, T.nv)
    unfold goesOn; simp only
    split
    · exact .p1 rfl s (by show k + 1 = 1 + 3 * ((T.reads ++ [(T.na, T.nv)]).length : Int); unfold rl at hk; omega) hw
    · split
      · exact .p10 rfl rfl (by show k + 1 ≤ 2 + 3 * ((T.reads ++ [(T.na, T.nv)]).length : Int) + 4 * E.stripes + (T.writes.length : Int); unfold rl at hk; omega)
      · exact .p4 rfl s (by show k + 1 = 1 + 3 * ((T.reads ++ [(T.na, T.nv)]).length : Int) + 2 * (T.holds.length : Int); rw [hh]; unfold rl at hk; simp only [List.length_nil]; omega) ⟨hw.clk, fun j h1 h2 _ => hw.free j h1 h2⟩
  | p4 h s hk hw =>
    have e : step E T W = (looks T W, W) := by unfold step; rw [if_neg hp, if_neg (by omega), if_neg (by omega), if_neg (by omega), if_neg (by omega), if_pos h]
    rw [e]
    have H := hO.wf.held (by omega)
    have P := hO.wf.part (.inl h)
    have kin : T.locks.getD T.holds.length 0 ∈ T.locks := by rw [List.getD_eq_getElem?_getD, List.getElem?_eq_getElem P]; exact List.getElem_mem P
    have k3 := locks_in G (wr_in G H.2.2.2) _ (by rw [← H.1]; exact kin)
    have hup : Up T.locks := by rw [H.1]; exact up_locksOf _ _
    have hw0 := hw.free _ k3.1 k3.2 (by rw [H.2.2.1]; exact up_fresh hup P)
    have e2 : looks T W = { T with was := ld W (T.locks.getD T.holds.length 0), phase := 5 } := by unfold looks; simp only; rw [hw0, s, if_pos f0]
    rw [e2]
    exact .p5 rfl s hw0 (by show k + 1 = 2 + 3 * rl T + 2 * hl T; omega) hw
  | p5 h s w hk hw =>
    have e : step E T W = grabs T W := by unfold step; rw [if_neg hp, if_neg (by omega), if_neg (by omega), if_neg (by omega), if_neg (by omega), if_neg (by omega), if_pos h]
    rw [e]
    have H := hO.wf.held (by omega)
    have P := hO.wf.part (.inr h)
    have kin : T.locks.getD T.holds.length 0 ∈ T.locks := by rw [List.getD_eq_getElem?_getD, List.getElem?_eq_getElem P]; exact List.getElem_mem P
    have k3 := locks_in G (wr_in G H.2.2.2) _ (by rw [← H.1]; exact kin)
    have hup : Up T.locks := by rw [H.1]; exact up_locksOf _ _
    have hw0 := hw.free _ k3.1 k3.2 (by rw [H.2.2.1]; exact up_fresh hup P)
    have hink : inn W (T.locks.getD T.holds.length 0) = true := inn_len hO.len (by omega) (by omega)
    have hi' : Hi E x ((T.holds ++ [(T.locks.getD T.holds.length 0, T.was)]).map (·.1)) (st W (T.locks.getD T.holds.length 0) (heldW T.owner)) := by
      refine ⟨by rw [ld_st', if_neg (by omega)]; exact hw.clk, fun j h1 h2 h3 => ?_⟩
      rw [List.map_append, List.mem_append, not_or] at h3
      have h4 : j ≠ T.locks.getD T.holds.length 0 := fun hh => h3.2 (by simp [hh])
      rw [ld_st', if_neg (fun hh => h4 hh.2)]
      exact hw.free j h1 h2 h3.1
    have hr : ((T.holds ++ [(T.locks.getD T.holds.length 0, T.was)]).length : Int) = (T.holds.length : Int) + 1 := by simp
    unfold grabs; simp only
    rw [if_pos ⟨by rw [hw0, w], hink⟩]
    simp only
    split
    · rename_i c
      refine .p6 rfl s ?_ hi'
      show k + 1 = 1 + 3 * rl T + 2 * ll T
      unfold hl at hk; unfold ll; omega
    · refine .p4 rfl s ?_ hi'
      show k + 1 = 1 + 3 * rl T + 2 * ((T.holds ++ [(T.locks.getD T.holds.length 0, T.was)]).length : Int)
      unfold hl at hk; omega
  | p6 h s hk hw =>
    have e : step E T W = bumps E T W := by unfold step; rw [if_neg hp, if_neg (by omega), if_neg (by omega), if_neg (by omega), if_neg (by omega), if_neg (by omega), if_neg (by omega), if_pos h]
    rw [e]
    have H := hO.wf.held (by omega)
    have Fu := hO.wf.full (by omega)
    have eh : T.holds.map (·.1) = T.locks := by rw [H.2.2.1, Fu, List.take_length]
    have eb : bumpE W 1 E.clock = 0 := by
      unfold bumpE
      have e3 : W.getD (Int.toNat 1) 0 = ld W 1 := by unfold ld; rw [hin1]; rfl
      rw [hin1, if_pos rfl, e3, hw.clk, if_neg (by omega)]
    unfold bumps; simp only
    rw [if_neg (by rw [eb]; simp)]
    obtain ⟨ck, hck⟩ : ∃ ck, ((locksOf E T.reads).filter fun x => !T.locks.contains x) = ck := ⟨_, rfl⟩
    rw [hck]
    have ku : Up ck := by rw [← hck]; exact (up_locksOf _ _).filter _
    have kin : ∀ y ∈ ck, (3 ≤ y ∧ y < 3 + E.stripes) ∧ y ∉ T.locks := fun y hy => by
      rw [← hck] at hy
      obtain ⟨h1, h2⟩ := List.mem_filter.1 hy
      exact ⟨locks_in G (reads_in G hO.wf) y h1, by simpa using h2⟩
    have kl := Up.len ku (fun y hy => (kin y hy).1)
    rw [if_pos (by omega)] at kl
    have hz : ∀ j ∈ ck, ld (bumpW W 1 E.clock) j = 0 := fun j hj => by
      have := kin j hj
      rw [ld_bump, if_neg (by omega)]
      exact hw.free j this.1.1 this.1.2 (by rw [eh]; exact this.2)
    unfold next; simp only
    split
    · rename_i c
      refine .p8 rfl ?_ ?_
      · show k + 1 = 2 + 3 * rl T + 2 * ll T + (ck.length : Int) + 0
        omega
      · show (ck.length : Int) ≤ E.stripes; omega
    · refine .p7 rfl s ?_ ?_ hz
      · show k + 1 = 2 + 3 * rl T + 2 * ll T + 0
        omega
      · show (ck.length : Int) ≤ E.stripes; omega
  | p7 h s hk hc hw =>
    have e : step E T W = (verifies T W, W) := by unfold step; rw [if_neg hp, if_neg (by omega), if_neg (by omega), if_neg (by omega), if_neg (by omega), if_neg (by omega), if_neg (by omega), if_neg (by omega), if_pos h]
    rw [e]
    have C := hO.wf.chk h
    have hm : T.checks.getD T.at_.toNat 0 ∈ T.checks := by
      have : T.at_.toNat < T.checks.length := by omega
      rw [List.getD_eq_getElem?_getD, List.getElem?_eq_getElem this]; exact List.getElem_mem this
    have hwr := (hO.wf.wrote (by omega)).1
    unfold verifies; simp only
    rw [hw _ hm, s, if_pos f0]
    split
    · rename_i c
      unfold next; simp only
      rw [if_neg (by intro hh; exact hwr (List.length_eq_zero_iff.1 hh))]
      refine .p8 rfl ?_ hc
      show k + 1 = 2 + 3 * rl T + 2 * ll T + (T.checks.length : Int) + 0
      omega
    · refine .p7 h (by first | exact s | rfl) ?_ hc hw
      show k + 1 = 2 + 3 * rl T + 2 * ll T + (T.at_ + 1)
      omega
  | p8 h hk hc =>
    have e : step E T W = stores T W := by unfold step; rw [if_neg hp, if_neg (by omega), if_neg (by omega), if_neg (by omega), if_neg (by omega), if_neg (by omega), if_neg (by omega), if_neg (by omega), if_neg (by omega), if_pos h]
    rw [e]
    have C := hO.wf.sto h
    have Fu := hO.wf.full (by omega)
    have H := hO.wf.held (by omega)
    have Wr := hO.wf.wrote (by omega)
    obtain ⟨p, l, hpl⟩ := List.exists_cons_of_ne_nil Wr.1
    have hpos : 0 < T.locks.length := by
      have : lock E p.1 ∈ locksOf E T.writes := mem_locksOf.2 ⟨p, by rw [hpl]; simp, rfl⟩
      rw [Wr.2.2.2]; exact List.length_pos_of_mem this
    unfold stores; simp only
    split
    · unfold next; simp only
      rw [if_neg (by omega)]
      refine .p9 rfl rfl ?_ hc
      show k + 1 = 2 + 3 * rl T + 2 * ll T + cl T + (T.writes.length : Int) + 0
      omega
    · refine .p8 h ?_ hc
      show k + 1 = 2 + 3 * rl T + 2 * ll T + cl T + (T.at_ + 1)
      omega
  | p9 h ho hk hc =>
    have e : step E T W = releases T W := by unfold step; rw [if_neg hp, if_neg (by omega), if_neg (by omega), if_neg (by omega), if_neg (by omega), if_neg (by omega), if_neg (by omega), if_neg (by omega), if_neg (by omega), if_neg (by omega)]
    rw [e]
    have C := hO.wf.rel h
    have Fu := hO.wf.full (.inr ⟨h, ho⟩)
    have H := hO.wf.held (by omega)
    have hL : (T.locks.length : Int) ≤ E.stripes := by rw [H.1]; exact locks_len G (wr_in G H.2.2.2)
    unfold releases; simp only
    split
    · refine .p10 rfl ho ?_
      show k + 1 ≤ 2 + 3 * rl T + 4 * E.stripes + wl T
      unfold ll at hk; omega
    · refine .p9 h ho ?_ hc
      show k + 1 = 2 + 3 * rl T + 2 * ll T + cl T + wl T + (T.at_ + 1)
      omega
  | p10 h _ _ => exact absurd h hp
end Att
end Go.Proofs.YthojgahcpkdemaaGreat

/- the environment of the statements of this layer -/
namespace Go.Proofs.YthojgahcpkdemaaGreat
open Go.RowKit Go.Bas View VIn IMap_ VPlain Lay RefLay Of Small_
open Go.ChangeShapes Go.Sor
namespace Att

theorem rd_in {f : Int → Option Int} (hf : ∀ a y, f a = some y → In64 y) {m : M} (hm : PIn m) {a y : Int} (h : rd f m a = some y) : In64 y := by
  unfold rd at h
  split at h
  · cases h; exact in0
  · split at h
    · cases h; exact View.getD_in hm a
    · exact hf _ _ h
theorem play_in {f : Int → Option Int} (hf : ∀ a y, f a = some y → In64 y) : ∀ (l : List Ins) (sk : Bool) (x : Int) (m : M) (qs : List Int), SIn l → In64 x → PIn m → ∀ m', (play f l sk x m qs).1 = .inr m' → PIn m'
  | [], sk, x, m, qs, _, _, hm, m', h => by
    have : m = m' := by cases sk <;> (simp [play] at h; exact h)
    subst this; exact hm
  | i :: r, true, x, m, qs, hl, hx, hm, m', h => by
    simp only [play] at h
    exact play_in hf r false x m qs (fun j hj => hl j (by simp [hj])) hx hm m' h
  | i :: r, false, x, m, qs, hl, hx, hm, m', h => by
    have hi := hl i (by simp)
    have hl2 : SIn r := fun j hj => hl j (by simp [hj])
    have key := fun sk y m2 q2 (h1 : In64 y) (h2 : PIn m2) h3 => play_in hf r sk y m2 q2 hl2 h1 h2 m' h3
    simp only [play] at h
    split at h
    · cases hr : rd f m i.a with
      | some y => rw [hr] at h; exact key _ _ _ _ (rd_in hf hm hr) hm h
      | none => rw [hr] at h; simp at h
    · split at h
      · exact key _ _ _ _ hx (View.wr_in hm hi.1 hi.2) h
      · split at h
        · exact key _ _ _ _ hx (View.wr_in hm hi.1 hx) h
        · split at h
          · cases hr : rd f m x with
            | some y => rw [hr] at h; exact key _ _ _ _ (rd_in hf hm hr) hm h
            | none => rw [hr] at h; simp at h
          · split at h
            · exact key _ _ _ _ hx hm h
            · exact key _ _ _ _ hx hm h

theorem fits_sin {t : Int} (ht : 0 ≤ t ∧ t ≤ 1000000) {l : List Ins} (hl : SIn l) : SIn (fits t l) := fun p hp => by
  have h1 := fits_in t l p hp
  unfold fits at hp
  obtain ⟨j, hj, rfl⟩ := List.mem_map.1 hp
  exact ⟨⟨by omega, by omega⟩, (hl j (List.mem_of_mem_take hj)).2⟩
theorem rb_run {cf : Cfg} {at_ : At} {t : Int} (ht : 0 ≤ t ∧ t ≤ 1000000) {l : List Ins} (hl : SIn l) : RB (env cf at_ (runOf (fits t l))) := fun k hk => by
  show In64 (runOf (fits t l) k).1 ∧ PIn (runOf (fits t l) k).2
  have pf := play_fit (VPlain.first k) t (t + 6) (fits t l) false 0 [] [] (fits_in t l) List.Pairwise.nil (by simp)
  have pin := play_in (f := VPlain.first k) (fun a y h => first_in hk h) (fits t l) false 0 [] [] (fits_sin ht hl) in0 (fun p hp => (List.not_mem_nil hp).elim)
  unfold runOf
  cases e : (play (VPlain.first k) (fits t l) false 0 [] []).1 with
  | inl a => have := pf.1 a e; exact ⟨⟨by show _ ≤ a; omega, by show a ≤ _; omega⟩, fun p hp => (List.not_mem_nil hp).elim⟩
  | inr m => exact ⟨⟨by show _ ≤ (-1 : Int); omega, by show (-1 : Int) ≤ _; omega⟩, pin m e⟩

/-- of a small layout -/
theorem table_small (c0 : Cfg) : (places (small c0)).a0 = 3 + (small c0).stripes := rfl
theorem good_small (c0 : Cfg) (l : List Ins) : Good (env (small c0) (places (small c0)) (runOf (fits (places (small c0)).a0 l))) (places (small c0)).a0 6 := by
  have F := small_fine c0
  have hw := words_in F
  have hs := F.stripes
  have ht := table_small c0
  refine ⟨hs.1, by show 3 + (small c0).stripes ≤ _; omega, ?_, fun k h => runOf_need l k h, fun k h => runOf_wrote (by omega) l k h⟩
  show (places (small c0)).a0 + ((6 : Nat) : Int) ≤ (places (small c0)).a11
  rw [places_words, ht]
  omega
theorem words0_len (c : Cfg) (x : Int) : ((words0 c x).length : Int) = (places (small c)).a11 := by
  have hw := words_in (small_fine c)
  unfold words0
  rw [List.length_set, List.length_replicate, places_words]; omega
theorem ld_words0 (c : Cfg) (x a : Int) : ld (words0 c x) a = if a = 1 then clock0 c x else 0 := by
  have hw := words_in (small_fine c)
  have h1 : inn (List.replicate (words (small c)).toNat (0 : Int)) 1 = true := by unfold inn; simp; omega
  have e : words0 c x = (List.replicate (words (small c)).toNat (0 : Int)).set (Int.toNat 1) (clock0 c x) := rfl
  rw [e, ld_set _ h1]
  split
  · rfl
  · exact ld_rep _ _
theorem clock0_in (c : Cfg) (x : Int) : 0 ≤ clock0 c x ∧ clock0 c x ≤ (small c).clock ∧ clock0 c x ≤ 1000 := by
  have F := (small_fine c).clock
  unfold clock0
  have := Int.emod_nonneg (IntKind.u64.wrap x) (b := min (small c).clock 1000 + 1) (by omega)
  have := Int.emod_lt_of_pos (IntKind.u64.wrap x) (b := min (small c).clock 1000 + 1) (by omega)
  omega
theorem wb_words0 (c : Cfg) (x : Int) : WB (words0 c x) := by
  have h := clock0_in c x
  refine ⟨fun k => ?_, ?_⟩
  · rw [ld_words0]; split
    · exact ⟨by omega, by omega⟩
    · exact in0
  · rw [ld_words0]; simpa using h.1
end Att
end Go.Proofs.YthojgahcpkdemaaGreat

/- an attempt alone: until it is over -/
namespace Go.Proofs.YthojgahcpkdemaaGreat
open Go.RowKit Go.Bas View VIn IMap_ VPlain Lay RefLay Of Small_
open Go.ChangeShapes Go.Sor
namespace Att

theorem writes_step (E : Env) (T : AT) (W : List Int) : (step E T W).1.writes = T.writes ∨ ∃ l, (step E T W).1.writes = (E.run l).2 := by
  have u : ∀ (T1 : AT) how, (giveUp T1 how).writes = T1.writes := fun T1 how => by unfold giveUp; split <;> rfl
  have v : ∀ (T1 : AT) p n, (next T1 p n).writes = T1.writes := fun _ _ _ => rfl
  unfold step
  by_cases c : T.phase = 10
  · rw [if_pos c]; exact .inl rfl
  rw [if_neg c]
  by_cases c0 : T.phase = 0
  · rw [if_pos c0]; refine .inl ?_; unfold sees; simp only; split <;> rfl
  rw [if_neg c0]
  by_cases c1 : T.phase = 1
  · rw [if_pos c1]; refine .inl ?_; unfold locked; simp only; split <;> rfl
  rw [if_neg c1]
  by_cases c2 : T.phase = 2
  · rw [if_pos c2]; exact .inl rfl
  rw [if_neg c2]
  by_cases c3 : T.phase = 3
  · rw [if_pos c3]
    by_cases h1 : ld W (lock E T.na) ≠ T.was ∨ (T.na = 2 ∧ T.nv ≠ 0)
    · refine .inl ?_; unfold confirms; rw [if_pos h1]; rfl
    · by_cases h2 : 0 ≤ (E.run (T.reads ++ [(T.na, T.nv)]).tail).1
      · refine .inl ?_; unfold confirms; rw [if_neg h1]; unfold goesOn; simp only; rw [if_pos h2]
      · by_cases h3 : (E.run (T.reads ++ [(T.na, T.nv)]).tail).2 = []
        · refine .inl ?_; unfold confirms; rw [if_neg h1]; unfold goesOn; simp only; rw [if_neg h2, if_pos h3]; rfl
        · refine .inr ⟨(T.reads ++ [(T.na, T.nv)]).tail, ?_⟩; unfold confirms; rw [if_neg h1]; unfold goesOn; simp only; rw [if_neg h2, if_neg h3]
  rw [if_neg c3]
  by_cases c4 : T.phase = 4
  · rw [if_pos c4]; refine .inl ?_; unfold looks; simp only; split
    · rfl
    · rw [u]
  rw [if_neg c4]
  by_cases c5 : T.phase = 5
  · rw [if_pos c5]; refine .inl ?_; unfold grabs; simp only; split
    · rfl
    · split
      · rfl
      · rw [u]
  rw [if_neg c5]
  by_cases c6 : T.phase = 6
  · rw [if_pos c6]; refine .inl ?_; unfold bumps; simp only; split
    · rw [u]
    · rfl
  rw [if_neg c6]
  by_cases c7 : T.phase = 7
  · rw [if_pos c7]; refine .inl ?_; unfold verifies; simp only; split
    · split <;> rfl
    · rw [u]
  rw [if_neg c7]
  by_cases c8 : T.phase = 8
  · rw [if_pos c8]; refine .inl ?_; unfold stores; simp only; split <;> rfl
  rw [if_neg c8]
  refine .inl ?_; unfold releases; simp only; split <;> rfl
structure Lone (E : Env) (lo x k : Int) (T : AT) (W : List Int) : Prop where
  ok : Okk E lo 6 T W
  low : Low T
  wb : WB W
  wl : T.writes.length ≤ 20
  most : 0 ≤ k ∧ k + mu E.stripes 6 T ≤ 285
  how : (x < E.clock ∧ Solo E x k T W) ∨ (E.clock ≤ x ∧ ((k = 0 ∧ T.phase = 0 ∧ T.reads = [] ∧ ld W 1 = x) ∨ (k = 1 ∧ T.phase = 10 ∧ T.how = 3)))
theorem Lone.step {E : Env} {lo x k : Int} (G : Good E lo 6) (R : RB E) (hc : E.clock ≤ 9223372036854775807) (hx : 0 ≤ x) (hml : ∀ l, (E.run l).2.length ≤ 20) {T : AT} {W : List Int} (h : Lone E lo x k T W) (hp : T.phase ≠ 10) : Lone E lo x (k + 1) (step E T W).1 (step E T W).2 := by
  obtain ⟨ho, hL, hW, hw, hm, hh⟩ := h
  have o := okk_step G R hc ho hW hp
  have l := (ok_step G ho.wf W hp).less
  refine ⟨o.1, low_step hL ho.wf.ph, o.2, ?_, by omega, ?_⟩
  · rcases writes_step E T W with e | ⟨l, e⟩
    · rw [e]; exact hw
    · rw [e]; exact hml l
  rcases hh with ⟨h1, h2⟩ | ⟨h1, ⟨h2, h3, h4, h5⟩ | ⟨h2, h3, h4⟩⟩
  · exact .inl ⟨h1, solo_step G ⟨hx, h1⟩ ho h2 hp⟩
  · refine .inr ⟨h1, .inr ⟨by omega, ?_⟩⟩
    have e : Att.step E T W = (sees E T W, W) := by unfold Att.step; rw [if_neg hp, if_pos h3]
    rw [e]
    unfold sees; simp only
    rw [if_pos (by omega)]
    exact ⟨rfl, rfl⟩
  · exact absurd h3 hp
theorem Lone.k {E : Env} {lo x k : Int} (G : Good E lo 6) {T : AT} {W : List Int} (h : Lone E lo x k T W) : 0 ≤ k ∧ k ≤ 285 := by
  have := mu_nonneg G h.ok.wf
  have := h.most
  omega
theorem Lone.over {E : Env} {lo x k : Int} (G : Good E lo 6) {T : AT} {W : List Int} (h : Lone E lo x k T W) (hp : T.phase = 10) :
    (decide (T.how = 3) = decide (E.clock ≤ x)) ∧ (T.how = 3 ∨ T.how = 1) ∧ k ≤ 2 + 3 * (T.reads.length : Int) + 4 * E.stripes + ((wroteB T).length : Int) := by
  have GS := G.str
  rcases h.how with ⟨h1, h2⟩ | ⟨h1, ⟨_, h3, _⟩ | ⟨h2, h3, h4⟩⟩
  · cases h2 with
    | p10 h ho hk =>
      refine ⟨by rw [ho]; simp; omega, .inr ho, ?_⟩
      have e : wroteB T = T.writes := by unfold wroteB sureB; rw [if_pos (by simp [ho])]
      rw [e]; exact hk
    | p0 h | p1 h | p2 h | p3 h | p4 h | p5 h | p6 h | p7 h | p8 h | p9 h => omega
  · omega
  · exact ⟨by rw [h4]; simpa using h1, .inl h4, by omega⟩
theorem Lone.new (c0 : Cfg) (y : Int) (l : List Ins) : Lone (env (small c0) (places (small c0)) (runOf (fits (places (small c0)).a0 l))) (places (small c0)).a0 (clock0 c0 y) 0 (newT 0) (words0 c0 y) := by
  have F := (small_fine c0).stripes
  have hc := clock0_in c0 y
  refine ⟨Okk.new (by omega) (words0_len c0 y), Low.new 0, wb_words0 c0 y, Nat.zero_le _, ⟨by omega, ?_⟩, ?_⟩
  · show (0 : Int) + mu (small c0).stripes 6 (newT 0) ≤ 285
    unfold mu newT; simp; omega
  · by_cases h : clock0 c0 y < (small c0).clock
    · refine .inl ⟨h, .p0 rfl rfl rfl ⟨?_, ?_, fun j h1 h2 => ?_⟩⟩
      · rw [ld_words0, if_pos rfl]
      · rw [ld_words0, if_neg (by omega)]
      · rw [ld_words0, if_neg (by omega)]
    · exact .inr ⟨Int.not_lt.1 h, .inl ⟨rfl, rfl, rfl, by rw [ld_words0, if_pos rfl]⟩⟩

/-- in memory -/
def LoneW (w : World) (S : Nat → Prop) (b a g : Nat) (c0 : Cfg) (y : Int) (is : List Ins) (k : Nat) (T : AT) : Prop :=
  ∃ W, One w S b a g (small c0) (places (small c0)) (runOf (fits (places (small c0)).a0 is)) T W (2 + k) ∧ Lone (env (small c0) (places (small c0)) (runOf (fits (places (small c0)).a0 is))) (places (small c0)).a0 (clock0 c0 y) k T W
theorem LoneW.below {w w' : World} {S : Nat → Prop} {b a g : Nat} {c0 : Cfg} {y : Int} {is : List Ins} {k : Nat} {T : AT} (h : LoneW w S b a g c0 y is k T) (hb : Below w.heap.size w w') : LoneW w' S b a g c0 y is k T := by
  obtain ⟨W, h1, h2⟩ := h; exact ⟨W, h1.below hb, h2⟩
theorem loneW_step {w : World} {S : Nat → Prop} {b a g : Nat} {c0 : Cfg} {y : Int} {is : List Ins} (hsi : SIn is) {k : Nat} {T : AT} (h : LoneW w S b a g c0 y is k T) (hp : T.phase ≠ 10) :
    Calls Tryz.prog 16 #[.pointer (some ⟨b, 0, none⟩), .pointer (some ⟨a, 0, none⟩)] w fun e w' => ∃ T', e = .returned (.int .i64 (told T')) ∧ LoneW w' S b a g c0 y is (k + 1) T' ∧ Chg (fun k => ¬ S k) w w' := by
  obtain ⟨W, h1, h2⟩ := h
  have F := small_fine c0
  have hst := F.stripes; have hck := F.clock
  have ht := table_small c0
  have G := good_small c0 is
  have hk := h2.k G
  refine (h1.step G (by omega) hst.2 (by omega) (fun l => by have := runOf_len (fits (places (small c0)).a0 is) l; have := fits_len (places (small c0)).a0 is; omega) h2.ok h2.low h2.wb (by omega) hp).mono ?_
  rintro e w' ⟨rfl, h3, h4⟩
  have hin := acc_in G h2.ok.wf h2.ok.len hp
  refine ⟨_, rfl, ⟨_, ?_, by have := h2.step G (rb_run (by omega) hsi) (by show (small c0).clock ≤ _; omega) (clock0_in c0 y).1 (fun l => Nat.le_trans (runOf_len _ l) (fits_len _ is)) hp; simpa using this⟩, h4⟩
  have e : (2 + (k : Int) + cnt W (acc (env (small c0) (places (small c0)) (runOf (fits (places (small c0)).a0 is))) T)) = 2 + ((k + 1 : Nat) : Int) := by
    unfold cnt; rw [hin]; simp; omega
  rw [e] at h3
  exact h3
theorem loneW_new {w : World} {S : Nat → Prop} {b a g pc base : Nat} {c0 c1 : Cfg} {pl : At} {tb y : Int} {W : List Int} {is : List Ins} {s : Value} (he : small c0 = c1 ∧ places c1 = pl ∧ pl.a0 = tb ∧ words0 c0 y = W) (ht : 0 ≤ tb ∧ tb ≤ 1000000) (hsi : SIn is)
    (hR : Row w b (newV c1 pl (progV pc)) (newT 0)) (hA : Ar w a g W 2) (hne : b ≠ a ∧ b ≠ g) (hp : w.heap[pc]? = some (.cells #[s] 40 (0, 0))) (hs : ITold w base (fits tb is) s)
    (hS : ∀ k, S k → k < w.heap.size ∧ k ≠ b ∧ k ≠ a ∧ k ≠ g) (hin : ∀ k, (k = pc ∨ s.ownBlock = some k) → S k) : LoneW w S b a g c0 y is 0 (newT 0) := by
  obtain ⟨rfl, rfl, rfl, rfl⟩ := he
  exact ⟨_, One.new hR hA hne ((runs_prog ht hp hs hsi).mono hin) hS, Lone.new c0 y is⟩
theorem loneW_reads {w : World} {S : Nat → Prop} {b a g : Nat} {c0 : Cfg} {y : Int} {is : List Ins} {k : Nat} {T : AT} (h : LoneW w S b a g c0 y is k T) :
    Calls Tryz.prog 29 #[.pointer (some ⟨b, 0, none⟩)] w fun e w' => ∃ A c, e = .returned (.slice A T.reads.length c) ∧ Below w.heap.size w w' := by
  obtain ⟨W, h1, h2⟩ := h
  obtain ⟨X, I, _⟩ := h1.att
  have := reads_len h2.ok.wf
  refine (reads_any I (by omega)).mono ?_
  rintro e w' ⟨v, rfl, h3, h4⟩
  obtain ⟨A, c, rfl⟩ := told_slice h3
  exact ⟨A, c, rfl, h4⟩
theorem loneW_writes {w : World} {S : Nat → Prop} {b a g : Nat} {c0 : Cfg} {y : Int} {is : List Ins} {k : Nat} {T : AT} (h : LoneW w S b a g c0 y is k T) :
    Calls Tryz.prog 24 #[.pointer (some ⟨b, 0, none⟩)] w fun e w' => ∃ A c, e = .returned (.slice A (wroteB T).length c) ∧ Below w.heap.size w w' := by
  obtain ⟨W, h1, h2⟩ := h
  obtain ⟨X, I, _⟩ := h1.att
  have := h2.wl
  refine (writes_any I (by omega)).mono ?_
  rintro e w' ⟨v, rfl, h3, h4⟩
  obtain ⟨A, c, rfl⟩ := told_slice h3
  exact ⟨A, c, rfl, h4⟩
theorem loneW_count {w : World} {S : Nat → Prop} {b a g : Nat} {c0 : Cfg} {y : Int} {is : List Ins} {k : Nat} {T : AT} (h : LoneW w S b a g c0 y is k T) :
    Calls Tryz.prog 28 #[.pointer (some ⟨a, 0, none⟩)] w fun e w' => e = .returned (.int .i64 (2 + k)) ∧ Below w.heap.size w w' := by
  obtain ⟨W, h1, h2⟩ := h
  exact count_any h1.ar
theorem loneW_over {w : World} {S : Nat → Prop} {b a g : Nat} {c0 : Cfg} {y : Int} {is : List Ins} {k : Nat} {T : AT} (h : LoneW w S b a g c0 y is k T) (hp : T.phase = 10) (m : Value) :
    Calls Tryz.prog 16 #[.pointer (some ⟨b, 0, none⟩), m] w fun e w' => e = .returned (.int .i64 (told T)) ∧ Below w.heap.size w w' := by
  obtain ⟨W, h1, h2⟩ := h
  obtain ⟨X, I⟩ := h1.row
  exact step_over I hp m
theorem loneW_k {w : World} {S : Nat → Prop} {b a g : Nat} {c0 : Cfg} {y : Int} {is : List Ins} {k : Nat} {T : AT} (h : LoneW w S b a g c0 y is k T) : k ≤ 285 := by
  obtain ⟨W, h1, h2⟩ := h
  have := h2.k (good_small c0 is); omega
theorem loneW_end {w : World} {S : Nat → Prop} {b a g : Nat} {c0 : Cfg} {y : Int} {is : List Ins} {k : Nat} {T : AT} (h : LoneW w S b a g c0 y is k T) (hp : T.phase = 10) :
    (decide (told T = 3) = decide ((small c0).clock ≤ clock0 c0 y)) ∧ (told T = 3 ∨ told T = 1) ∧ T.reads.length ≤ 7 ∧ (wroteB T).length ≤ 20 ∧ (k : Int) ≤ 2 + 3 * (T.reads.length : Int) + 4 * (small c0).stripes + ((wroteB T).length : Int) := by
  obtain ⟨W, h1, h2⟩ := h
  have e : told T = T.how := by unfold told; rw [if_pos hp]
  have h3 := h2.over (good_small c0 is) hp
  have := reads_len h2.ok.wf
  have := h2.wl
  rw [e]
  refine ⟨h3.1, h3.2.1, by omega, ?_, h3.2.2⟩
  unfold wroteB; split
  · omega
  · simp
theorem loneW_low {w : World} {S : Nat → Prop} {b a g : Nat} {c0 : Cfg} {y : Int} {is : List Ins} {k : Nat} {T : AT} (h : LoneW w S b a g c0 y is k T) : ∀ j, S j → j < w.heap.size := by
  obtain ⟨W, h1, h2⟩ := h
  exact fun j hj => (h1.kept j hj).1
theorem told_going {w : World} {S : Nat → Prop} {b a g : Nat} {c0 : Cfg} {y : Int} {is : List Ins} {k : Nat} {T : AT} (h : LoneW w S b a g c0 y is k T) : (told T == 0) = decide (T.phase ≠ 10) := by
  by_cases hp : T.phase = 10
  · have := (loneW_end h hp).2.1
    have e : (told T == 0) = false := by rw [beq_eq_false_iff_ne]; omega
    rw [e]; simp [hp]
  · have e : told T = 0 := by unfold told; rw [if_neg hp]
    rw [e]; simp [hp]
end Att
end Go.Proofs.YthojgahcpkdemaaGreat

/- whether words are the same -/
namespace Go.Proofs.YthojgahcpkdemaaGreat
open Go.RowKit Go.Bas SorPlain Go.Sor IMap_ VIn VPlain MapI
namespace View

set_option maxRecDepth 100000 in
set_option maxHeartbeats 4000000 in
theorem ints_same {w : World} {Ba Bb : Nat} {sa sb : Value} {a b : List Int} (ha : Words w Ba sa a) (hb : Words w Bb sb b) :
    Calls Tryz.prog 27 #[sa, sb] w fun e w' => e = .returned (.bool (decide (a = b))) ∧ ∃ m, w' = w.drewN m := by
  obtain ⟨Aa, ca, rfl, ma, _⟩ := id ha
  obtain ⟨Ab, cb, rfl, mb, _⟩ := id hb
  obtain ⟨n, hn⟩ : ∃ n, a.length = n := ⟨_, rfl⟩
  obtain ⟨n2, hn2⟩ : ∃ n, b.length = n := ⟨_, rfl⟩
  have HN := Lib.hid hn; have HN2 := Lib.hid hn2
  rw [hn] at ma ha ⊢
  rw [hn2] at mb hb ⊢
  have HA := Lib.hid ha; have HB := Lib.hid hb
  have ma : n ≤ 9223372036854775807 := ma
  have mb : n2 ≤ 9223372036854775807 := mb
  obtain ⟨r, hr⟩ : ∃ r, decide (a = b) = r := ⟨_, rfl⟩
  rw [hr]
  have HR := Lib.hid hr
  clear ha hb hn hn2 hr
  by_cases hne : n = n2
  · subst hne
    go_enter Tryz.func27, Tryz.ntmps27
    go_wp2
    go_loopw [5] (fun u5 wr => ∃ k : Nat, k ≤ n ∧ u5 = .int .i64 k ∧ Hid (a.take k = b.take k) ∧ ∃ m, Hid (wr = w.drewN m)) (fun u5 _ => n - (intOf u5).toNat)
    case atStart => exact ⟨0, by omega, rfl, rfl, 0, rfl⟩
    case round =>
      obtain ⟨k, hk, rfl, HT, m, HW⟩ := hrel
      by_cases hlt : k < n
      · have hla : k < a.length := by rw [HN.out]; exact hlt
        have hlb : k < b.length := by rw [HN2.out]; exact hlt
        obtain ⟨ba, oa, rfl, _, rowa⟩ := word_row HA.out hla
        obtain ⟨bb, ob, rfl, _, rowb⟩ := word_row HB.out hlb
        have e1 : a.take (k + 1) = a.take k ++ [a[k]] := List.take_succ_eq_append_getElem hla
        have e2 : b.take (k + 1) = b.take k ++ [b[k]] := List.take_succ_eq_append_getElem hlb
        have hab : a = b → a[k] = b[k] := fun e => by subst e; rfl
        obtain ⟨x1, h1⟩ : ∃ p, a[k] = p := ⟨_, rfl⟩
        obtain ⟨x2, h2⟩ : ∃ p, b[k] = p := ⟨_, rfl⟩
        rw [h1] at rowa e1 hab
        rw [h2] at rowb e2 hab
        have E1 := Lib.hid e1; have E2 := Lib.hid e2; have HAB := Lib.hid hab
        have c1 : wr.cell? ⟨ba, oa + k, none⟩ = some (.int .i64 x1) := by rw [HW.out]; exact rowa
        have c3 : wr.cell? ⟨bb, ob + k, none⟩ = some (.int .i64 x2) := by rw [HW.out]; exact rowb
        clear h1 h2 e1 e2 hab rowa rowb hla hlb
        by_cases hx : x1 = x2
        · subst hx
          go_wp2
          go_quiet (fail)
          go_wp2
          go_roundw
          case rel => exact ⟨k + 1, by omega, by go_num, by rw [Hid, E1.out, E2.out, HT.out], m + nq, by rw [Hid, HW.out, World.drewN_drewN]⟩
          case measure => simp [intOf]; omega
        · have hrf : Hid (r = false) := by
            rw [Hid, ← HR.out]
            exact decide_eq_false (fun e => hx (HAB.out e))
          go_wp2
          go_quiet (fail)
          go_wp2
          go_ret
          exact ⟨by rw [hrf.out]; rfl, m + nq, by rw [HW.out, World.drewN_drewN]⟩
      · obtain rfl : n = k := by omega
        have e : a = b := by
          have h1 := HT.out
          rwa [List.take_of_length_le (by rw [HN.out]; exact Nat.le_refl _), List.take_of_length_le (by rw [HN2.out]; exact Nat.le_refl _)] at h1
        have hrt : Hid (r = true) := by rw [Hid, ← HR.out]; exact decide_eq_true e
        clear e
        go_wp2
        go_ret
        exact ⟨by rw [hrt.out]; rfl, m, HW.out⟩
  · have hrf : Hid (r = false) := by
      rw [Hid, ← HR.out]
      exact decide_eq_false (fun e => hne (by rw [← HN.out, ← HN2.out, e]))
    go_enter Tryz.func27, Tryz.ntmps27
    go_wp2
    go_ret
    exact ⟨by rw [hrf.out]; rfl, 0, rfl⟩

end View
end Go.Proofs.YthojgahcpkdemaaGreat

/- several attempts at one arena, in memory -/
namespace Go.Proofs.YthojgahcpkdemaaGreat
open Go.RowKit Go.Bas View VIn IMap_
open Go.ChangeShapes
namespace Att

/-- n attempts, at blocks bs; what S keeps is nobody's -/
structure Many (w : World) (S K : Nat → Prop) (a g n : Nat) (cf : Lay.Cfg) (at_ : Lay.At) (bs : Nat → Nat) (rn : Nat → M → Int × M) (T : Nat → AT) (W : List Int) (c : Int) : Prop where
  ar : Ar w a g W c
  kept : ∀ k, K k → k < w.heap.size ∧ k ≠ a ∧ k ≠ g
  sub : ∀ k, S k → K k
  atts : ∃ X : Nat → AV, (∀ i, i < n → IsAtt w (bs i) (bs i) (X i) (T i) ∧ (X i).c = cf ∧ (X i).a = at_ ∧ Runs w S (X i).prog (rn i)) ∧
    (∀ i, i < n → bs i ≠ a ∧ bs i ≠ g ∧ ¬ K (bs i) ∧ ∀ k, OwnB (X i) k → k ≠ a ∧ k ≠ g ∧ ¬ K k) ∧
    (∀ i j, i < n → j < n → i ≠ j → bs i ≠ bs j ∧ ∀ k, OwnB (X i) k → ¬ OwnB (X j) k ∧ k ≠ bs j)

theorem Many.below {w w' : World} {S K : Nat → Prop} {a g n : Nat} {cf : Lay.Cfg} {at_ : Lay.At} {bs : Nat → Nat} {rn : Nat → M → Int × M} {T : Nat → AT} {W : List Int} {c : Int} (h : Many w S K a g n cf at_ bs rn T W c) (hb : Below w.heap.size w w') : Many w' S K a g n cf at_ bs rn T W c := by
  obtain ⟨hA, hk, hsub, X, h1, h2, h3⟩ := h
  have hs := hb.size
  refine ⟨hA.below hb, fun k hS => by have := hk k hS; exact ⟨by omega, this.2⟩, hsub, X, fun i hi => ?_, h2, h3⟩
  obtain ⟨I, e1, e2, R⟩ := h1 i hi
  exact ⟨I.keep (hb.block _ I.row.lt) (fun k hk => hb.block k (I.own_lt hk).2), e1, e2, R.keep (fun k hS => hb.block k (hk k (hsub k hS)).1)⟩
theorem Many.arena {w w' : World} {S K : Nat → Prop} {a g n : Nat} {cf : Lay.Cfg} {at_ : Lay.At} {bs : Nat → Nat} {rn : Nat → M → Int × M} {T : Nat → AT} {W W' : List Int} {c c' : Int} (h : Many w S K a g n cf at_ bs rn T W c) (hA' : Ar w' a g W' c') (hc : Chg (fun k => k = a ∨ k = g) w w') : Many w' S K a g n cf at_ bs rn T W' c' := by
  obtain ⟨hA, hk, hsub, X, h1, h2, h3⟩ := h
  have hs := hc.size
  refine ⟨hA', fun k hS => by have := hk k hS; exact ⟨by omega, this.2⟩, hsub, X, fun i hi => ?_, h2, h3⟩
  obtain ⟨I, e1, e2, R⟩ := h1 i hi
  have q := h2 i hi
  exact ⟨I.chg hc (fun h => h.elim q.1 q.2.1) (fun k hk h => h.elim (q.2.2.2 k hk).1 (q.2.2.2 k hk).2.1), e1, e2, R.keep (fun k hS => hc.block k (hk k (hsub k hS)).1 (fun h => h.elim (hk k (hsub k hS)).2.1 (hk k (hsub k hS)).2.2))⟩
theorem Many.zero {w : World} {S K : Nat → Prop} {a g : Nat} {cf : Lay.Cfg} {at_ : Lay.At} {bs : Nat → Nat} {rn : Nat → M → Int × M} {T : Nat → AT} {W : List Int} {c : Int} (hA : Ar w a g W c) (hS : ∀ k, K k → k < w.heap.size ∧ k ≠ a ∧ k ≠ g) (hsub : ∀ k, S k → K k) : Many w S K a g 0 cf at_ bs rn T W c :=
  ⟨hA, hS, hsub, fun _ => newV cf at_ (.slice Option.none 0 0), fun i h => by omega, fun i h => by omega, fun i j h => by omega⟩
/-- one more -/
theorem Many.push {w w' : World} {S S' K K' : Nat → Prop} {a g n b : Nat} {cf : Lay.Cfg} {at_ : Lay.At} {bs : Nat → Nat} {rn : Nat → M → Int × M} {T : Nat → AT} {W : List Int} {c owner : Int} {prog : Value} {run : M → Int × M} (h : Many w S K a g n cf at_ bs rn T W c) (hb : Below w.heap.size w w')
    (hr : Row w' b (newV cf at_ prog) (newT owner)) (hbn : w.heap.size ≤ b) (hR : Runs w' S' prog run) (hSS : ∀ k, S k → S' k) (hsub' : ∀ k, S' k → K' k) (hnew : ∀ k, K' k → ¬ K k → w.heap.size ≤ k ∧ k < w'.heap.size ∧ k ≠ b) :
    Many w' S' K' a g (n + 1) cf at_ (fun i => if i = n then b else bs i) (fun i => if i = n then run else rn i) (fun i => if i = n then newT owner else T i) W c := by
  obtain ⟨hA, hk, hsub, X, h1, h2, h3⟩ := h
  have hs := hb.size
  have hal := hA.lt
  have no : ∀ k, ¬ OwnB (newV cf at_ prog) k := fun k h => by
    rcases h with e | e | e | e | e <;> simp [newV, Value.ownBlock] at e
  have nS : ∀ k, k < w.heap.size → ¬ K k → ¬ K' k := fun k hlt hn hS' => by have := hnew k hS' hn; omega
  have hbl : ∀ i, i < n → bs i < w.heap.size := fun i hi => (h1 i hi).1.row.lt
  refine ⟨hA.below hb, fun k hS' => ?_, hsub', fun i => if i = n then newV cf at_ prog else X i, fun i hi => ?_, fun i hi => ?_, fun i j hi hj hij => ?_⟩
  · by_cases hS : K k
    · have := hk k hS; exact ⟨by omega, this.2⟩
    · have := hnew k hS' hS; exact ⟨this.2.1, by omega, by omega⟩
  · by_cases e : i = n
    · simp only [if_pos e]
      exact ⟨⟨hr, told_nil w' b, told_nil w' b, tw_nil w' b, htold_nil w' b, tw_nil w' b, fun k e => (no k (.inl e)).elim, fun k e => (no k (.inr (.inr (.inr (.inl e))))).elim, fun k e => (no k e).elim⟩, rfl, rfl, hR⟩
    · simp only [if_neg e]
      obtain ⟨I, e1, e2, R⟩ := h1 i (by omega)
      exact ⟨I.keep (hb.block _ I.row.lt) (fun k hk => hb.block k (I.own_lt hk).2), e1, e2, (R.keep (fun k hS => hb.block k (hk k (hsub k hS)).1)).mono hSS⟩
  · by_cases e : i = n
    · simp only [if_pos e]
      refine ⟨by omega, by omega, fun hS' => ?_, fun k hk => (no k hk).elim⟩
      by_cases hS : K b
      · have := (hk b hS).1; omega
      · exact (hnew b hS' hS).2.2 rfl
    · simp only [if_neg e]
      have q := h2 i (by omega)
      obtain ⟨I, _⟩ := h1 i (by omega)
      exact ⟨q.1, q.2.1, nS _ (hbl i (by omega)) q.2.2.1, fun k hk => ⟨(q.2.2.2 k hk).1, (q.2.2.2 k hk).2.1, nS k (I.own_lt hk).2 (q.2.2.2 k hk).2.2⟩⟩
  · by_cases e : i = n
    · simp only [if_pos e]
      have ej : j ≠ n := by omega
      simp only [if_neg ej]
      exact ⟨by have := hbl j (by omega); omega, fun k hk => (no k hk).elim⟩
    · simp only [if_neg e]
      obtain ⟨I, _⟩ := h1 i (by omega)
      by_cases ej : j = n
      · simp only [if_pos ej]
        exact ⟨by have := hbl i (by omega); omega, fun k hk => ⟨fun h => no k h, by have := (I.own_lt hk).2; omega⟩⟩
      · simp only [if_neg ej]
        exact h3 i j (by omega) (by omega) hij

/-- what befalls others' blocks that no program keeps -/
theorem Many.after {w w' : World} {S K K' : Nat → Prop} {a g n : Nat} {cf : Lay.Cfg} {at_ : Lay.At} {bs : Nat → Nat} {rn : Nat → M → Int × M} {T : Nat → AT} {W : List Int} {c : Int} (h : Many w S K a g n cf at_ bs rn T W c) (hs : w.heap.size ≤ w'.heap.size)
    (hkeep : ∀ k, k < w.heap.size → (¬ K k ∨ S k) → w'.heap[k]? = w.heap[k]?) (hK : ∀ k, K' k → K k ∨ (w.heap.size ≤ k ∧ k < w'.heap.size)) (hsub' : ∀ k, S k → K' k) : Many w' S K' a g n cf at_ bs rn T W c := by
  obtain ⟨hA, hk, hsub, X, h1, h2, h3⟩ := h
  have hal := hA.lt
  have nK : ∀ k, k < w.heap.size → ¬ K k → ¬ K' k := fun k hlt hn h' => (hK k h').elim hn (fun h => by omega)
  refine ⟨hA.kept (hkeep a hal.1 (.inl fun h => (hk a h).2.1 rfl)) (hkeep g hal.2 (.inl fun h => (hk g h).2.2 rfl)), fun k hk' => ?_, hsub', X, fun i hi => ?_, fun i hi => ?_, h3⟩
  · rcases hK k hk' with h | h
    · have := hk k h; exact ⟨by omega, this.2⟩
    · exact ⟨h.2, by omega, by omega⟩
  · obtain ⟨I, e1, e2, R⟩ := h1 i hi
    have q := h2 i hi
    exact ⟨I.keep (hkeep _ I.row.lt (.inl q.2.2.1)) (fun k hk' => hkeep k (I.own_lt hk').2 (.inl (q.2.2.2 k hk').2.2)), e1, e2, R.keep (fun k hS => hkeep k (hk k (hsub k hS)).1 (.inr hS))⟩
  · obtain ⟨I, e1, e2, R⟩ := h1 i hi
    have q := h2 i hi
    exact ⟨q.1, q.2.1, nK _ I.row.lt q.2.2.1, fun k hk' => ⟨(q.2.2.2 k hk').1, (q.2.2.2 k hk').2.1, nK k (I.own_lt hk').2 (q.2.2.2 k hk').2.2⟩⟩
theorem Many.row {w : World} {S K : Nat → Prop} {a g n : Nat} {cf : Lay.Cfg} {at_ : Lay.At} {bs : Nat → Nat} {rn : Nat → M → Int × M} {T : Nat → AT} {W : List Int} {c : Int} (h : Many w S K a g n cf at_ bs rn T W c) {i : Nat} (hi : i < n) : ∃ X, IsAtt w (bs i) (bs i) X (T i) := by
  obtain ⟨X, h1, _⟩ := h.atts
  exact ⟨X i, (h1 i hi).1⟩

/-- one of them makes a step -/
def upd (T : Nat → AT) (i : Nat) (t : AT) : Nat → AT := fun j => if j = i then t else T j
theorem Many.step {w : World} {S K : Nat → Prop} {a g n : Nat} {cf : Lay.Cfg} {at_ : Lay.At} {bs : Nat → Nat} {rn : Nat → M → Int × M} {T : Nat → AT} {W : List Int} {c : Int} (h : Many w S K a g n cf at_ bs rn T W c) {i : Nat} (hi : i < n)
    {lo : Int} {d : Nat} (G : Good (env cf at_ (rn i)) lo d) (hd : d ≤ 100) (hs : cf.stripes ≤ 64) (hclk : cf.clock ≤ 9223372036854775807) (hml : ∀ l, (rn i l).2.length ≤ 10000) (hO : Okk (env cf at_ (rn i)) lo d (T i) W) (hL : Low (T i)) (hW : WB W) (hc : 0 ≤ c ∧ c < 4611686018427387904) (hp : (T i).phase ≠ 10) :
    Calls Tryz.prog 16 #[.pointer (some ⟨bs i, 0, none⟩), .pointer (some ⟨a, 0, none⟩)] w fun e w' => e = .returned (.int .i64 (told (step (env cf at_ (rn i)) (T i) W).1)) ∧
      Many w' S K a g n cf at_ bs rn (upd T i (step (env cf at_ (rn i)) (T i) W).1) (step (env cf at_ (rn i)) (T i) W).2 (c + cnt W (acc (env cf at_ (rn i)) (T i))) ∧ Chg (fun k => ¬ K k) w w' := by
  obtain ⟨hA, hk, hsub, X, h1, h2, h3⟩ := h
  obtain ⟨I, e1, e2, R⟩ := h1 i hi
  have q := h2 i hi
  have hb := I.row.lt
  have hal := hA.lt
  have := stepA_any (c := c) I hA hc ⟨q.1, q.2.1⟩ (fun k hk => ⟨(q.2.2.2 k hk).1, (q.2.2.2 k hk).2.1⟩) (Nat.le_of_lt hb) (run := rn i) (by rw [e1]; exact ⟨G.str, by have := hs; omega⟩) (by rw [e1]; exact hclk) (S := S) (fun k hS => ⟨(hk k (hsub k hS)).1, fun ho => (q.2.2.2 k ho).2.2 (hsub k hS), fun e => q.2.2.1 (e ▸ hsub k hS), (hk k (hsub k hS)).2⟩) R hml hW.all (hO.fit G hd hs hL hp) hp
  rw [e1, e2] at this
  refine this.mono ?_
  rintro e w' ⟨rfl, ⟨X', I', ho, f1, f2, f3⟩, hA', hC⟩
  have hsz := hC.size
  have KK : ∀ k, K k → w'.heap[k]? = w.heap[k]? := fun k hS => hC.block k (hk k hS).1 (fun hh => by
    rcases hh with hh | hh | hh | hh
    · exact (q.2.2.2 k hh).2.2 hS
    · exact q.2.2.1 (hh ▸ hS)
    · exact (hk k hS).2.1 hh
    · exact (hk k hS).2.2 hh)
  have KS : ∀ k, S k → w'.heap[k]? = w.heap[k]? := fun k hS => KK k (hsub k hS)
  refine ⟨rfl, ⟨hA', fun k hS => by have := hk k hS; exact ⟨by omega, this.2⟩, hsub, fun j => if j = i then X' else X j, fun j hj => ?_, fun j hj => ?_, fun j l hj hl hjl => ?_⟩, hC.mono (fun k _ hh hS => ?_)⟩
  · by_cases e : j = i
    · subst e
      simp only [upd, eq_self, if_true]
      exact ⟨I', f1.trans e1, f2.trans e2, by rw [f3]; exact R.keep KS⟩
    · simp only [upd, if_neg e]
      obtain ⟨Ij, ej1, ej2, Rj⟩ := h1 j hj
      have d1 := h3 i j hi hj (fun h => e h.symm)
      have d2 := h3 j i hj hi e
      have qj := h2 j hj
      have notC : ∀ k, (k = bs j ∨ OwnB (X j) k) → ¬ (OwnB (X i) k ∨ k = bs i ∨ k = a ∨ k = g) := fun k hk hh => by
        rcases hk with rfl | hk
        · rcases hh with hh | hh | hh | hh
          · exact (d1.2 _ hh).2 rfl
          · exact d2.1 hh
          · exact qj.1 hh
          · exact qj.2.1 hh
        · rcases hh with hh | hh | hh | hh
          · exact (d2.2 k hk).1 hh
          · exact (d2.2 k hk).2 hh
          · exact (qj.2.2.2 k hk).1 hh
          · exact (qj.2.2.2 k hk).2.1 hh
      exact ⟨Ij.keep (hC.block _ Ij.row.lt (notC _ (.inl rfl))) (fun k hk => hC.block k (Ij.own_lt hk).2 (notC k (.inr hk))), ej1, ej2, Rj.keep KS⟩
  · by_cases e : j = i
    · subst e
      simp only [eq_self, if_true]
      refine ⟨q.1, q.2.1, q.2.2.1, fun k hk' => ?_⟩
      rcases ho k hk' with h | h
      · exact q.2.2.2 k h
      · exact ⟨by omega, by omega, fun hS => by have := (hk k hS).1; omega⟩
    · simp only [if_neg e]
      exact h2 j hj
  · by_cases e : j = i
    · subst e
      have el : l ≠ j := fun h => hjl h.symm
      simp only [eq_self, if_true, if_neg el]
      have d1 := h3 j l hj hl hjl
      obtain ⟨Il, _⟩ := h1 l hl
      refine ⟨d1.1, fun k hk' => ?_⟩
      rcases ho k hk' with h | h
      · exact d1.2 k h
      · exact ⟨fun h2 => by have := (Il.own_lt h2).2; omega, by have := Il.row.lt; omega⟩
    · simp only [if_neg e]
      by_cases el : l = i
      · subst el
        simp only [eq_self, if_true]
        have d2 := h3 j l hj hl hjl
        obtain ⟨Ij, _⟩ := h1 j hj
        refine ⟨d2.1, fun k hk' => ⟨fun h => ?_, (d2.2 k hk').2⟩⟩
        rcases ho k h with h | h
        · exact (d2.2 k hk').1 h
        · have := (Ij.own_lt hk').2; omega
      · simp only [if_neg el]
        exact h3 j l hj hl hjl
  · rcases hh with hh | hh | hh | hh
    · exact (q.2.2.2 k hh).2.2 hS
    · exact q.2.2.1 (hh ▸ hS)
    · exact (hk k hS).2.1 hh
    · exact (hk k hS).2.2 hh

end Att
end Go.Proofs.YthojgahcpkdemaaGreat

/- jobs that came in: small programs -/
namespace Go.Proofs.YthojgahcpkdemaaGreat
open Go.RowKit Go.Bas Go.WideShapes IMap_ Go.Deep
namespace VIn

set_option maxRecDepth 100000 in
theorem steps_at {H : Type} {enc : TypeId × Value → H} {w : World} {base : Nat} {spare : Nat → Bool} {held : Bool} {v : Value} {x : DataW H × List MemPlace} {fuel : Nat}
    (hf : DataW.trod enc Tryz.prog w base spare held fuel 40 [v] = some x) : ∃ l, Steps w w.heap.size v l ∧ SIn l := by
  obtain ⟨A, n, c, rfl, hnc, hcm, hb⟩ := open_rows Tryz.underlying40 Tryz.underlying82 (by kernel_rfl) (by kernel_rfl) (by decide) hf
  by_cases hn : n = 0
  · subst hn
    exact ⟨[], ⟨A, c, rfl, Nat.zero_le _, fun h => absurd h (by simp)⟩, fun p hp => by simp at hp⟩
  · obtain ⟨b, off, rfl, hlt, hc⟩ := hb (by omega)
    have key : ∀ i, ∃ x : Ins, (In64 x.a ∧ In64 x.b) ∧ (i < n → w.cell? ⟨b, off + i * 3, none⟩ = some (.int .i64 x.kind) ∧ w.cell? ⟨b, off + i * 3 + 1, none⟩ = some (.int .i64 x.a) ∧ w.cell? ⟨b, off + i * 3 + 2, none⟩ = some (.int .i64 x.b)) := by
      intro i
      by_cases hi : i < n
      · obtain ⟨u0, y0, m0, c0, t0⟩ := hc i hi 0 _ rfl
        obtain ⟨u1, y1, m1, c1, t1⟩ := hc i hi 1 _ rfl
        obtain ⟨u2, y2, m2, c2, t2⟩ := hc i hi 2 _ rfl
        obtain ⟨x0, e0, _, f0⟩ := DataW.trod_int Tryz.underlying3 t0
        obtain ⟨x1, e1, _, f1⟩ := DataW.trod_int Tryz.underlying3 t1
        obtain ⟨x2, e2, _, f2⟩ := DataW.trod_int Tryz.underlying3 t2
        simp at e0 e1 e2
        subst e0 e1 e2
        exact ⟨⟨x0, x1, x2⟩, ⟨in64_of_wf f1, in64_of_wf f2⟩, fun _ => ⟨c0, c1, c2⟩⟩
      · exact ⟨⟨0, 0, 0⟩, by unfold In64; simp, fun h => absurd h hi⟩
    refine ⟨(List.range n).map fun i => Classical.choose (key i), ⟨some ⟨b, off, none⟩, c, by simp, by simp; omega, fun _ => ⟨b, off, rfl, hlt, fun i hi => ?_⟩⟩, fun p hp => ?_⟩
    · have hi' : i < n := by simpa using hi
      simp only [List.getElem_map, List.getElem_range]
      exact (Classical.choose_spec (key i)).2 hi'
    · obtain ⟨i, _, rfl⟩ := List.mem_map.1 hp
      exact (Classical.choose_spec (key i)).1

/-- jobs in memory, below block B -/
def Jobs (w : World) (B : Nat) (s : Value) (l : List (List Ins)) : Prop :=
  ∃ (A : Option Addr) (c : Nat), s = .slice A l.length c ∧ l.length ≤ maxLen ∧
    (0 < l.length → ∃ b off, A = some ⟨b, off, none⟩ ∧ b < B ∧ ∀ i (h : i < l.length), ∃ v, w.cell? ⟨b, off + i, none⟩ = some v ∧ Steps w B v l[i])
theorem Jobs.below {w w' : World} {B : Nat} {s : Value} {l : List (List Ins)} (h : Jobs w B s l) (hb : Below B w w') : Jobs w' B s l := by
  obtain ⟨A, c, rfl, hm, hc⟩ := h
  refine ⟨A, c, rfl, hm, fun hn => ?_⟩
  obtain ⟨b, off, rfl, hlt, hc⟩ := hc hn
  refine ⟨b, off, rfl, hlt, fun i hi => ?_⟩
  obtain ⟨v, h0, h1⟩ := hc i hi
  exact ⟨v, by rw [hb.cell (by exact hlt)]; exact h0, h1.below hb⟩
set_option maxRecDepth 100000 in
theorem jobs_of {H : Type} {enc : TypeId × Value → H} {w : World} {base : Nat} {spare : Nat → Bool} {held : Bool} {v : Value} {d : DataW H} {p : List MemPlace} {r : Reach} {b0 : Nat}
    (hv : Value.okWide Tryz.prog w r b0 24 v) (h : DataW.Trod enc Tryz.prog w base spare held 24 v d p) : ∃ l, Jobs w w.heap.size v l ∧ ∀ j ∈ l, SIn j := by
  obtain ⟨A, n, c, rfl⟩ := okWide_slice Tryz.underlying24 hv
  obtain ⟨fuel, hf⟩ := h
  rcases open_slice1 (cs := [.slice A n c]) Tryz.underlying24 (by kernel_rfl) hf with ⟨hcs, _⟩ | ⟨ad, len, cap, m, k, V, D, Pl, hcs, _, hl, hm, hmm, _, hi⟩
  · injection hcs with hcs
    injection hcs with e1 e2 e3
    subst e1 e2 e3
    exact ⟨[], ⟨none, 0, rfl, Nat.zero_le _, fun h => absurd h (by simp)⟩, fun p hp => by simp at hp⟩
  · injection hcs with hcs
    injection hcs with e1 e2 e3
    subst e1 e2 e3
    by_cases hn : n = 0
    · subst hn
      exact ⟨[], ⟨_, _, rfl, Nat.zero_le _, fun h => absurd h (by simp)⟩, fun p hp => by simp at hp⟩
    · have hmn : n ≤ m := by rw [hmm]; split <;> omega
      have key : ∀ i, ∃ l : List Ins, SIn l ∧ (i < n → w.cell? (ad.add i) = some (V i) ∧ Steps w w.heap.size (V i) l) := fun i => by
        by_cases hlt : i < n
        · obtain ⟨h1, h2⟩ := hi i (by omega)
          obtain ⟨l, h3, h4⟩ := steps_at h2
          exact ⟨l, h4, fun _ => ⟨h1, h3⟩⟩
        · exact ⟨[], fun p hp => by simp at hp, fun h => absurd h hlt⟩
      obtain ⟨b, off, spot⟩ := ad
      have h0 := ((Classical.choose_spec (key 0)).2 (by omega)).1
      have hs : spot = none := by
        have h00 : ∃ u, w.cell? ⟨b, off, spot⟩ = some u := ⟨_, by simpa [Addr.add] using h0⟩
        obtain ⟨u, h00⟩ := h00
        cases spot with
        | none => rfl
        | some q =>
          simp [World.cell?] at h00
          split at h00 <;> simp at h00
      subst hs
      have hlt : b < w.heap.size := by
        have := World.block_lt_of_cell? w _ h0
        simpa [Addr.add] using this
      refine ⟨(List.range n).map fun i => Classical.choose (key i), ⟨some ⟨b, off, none⟩, c, by simp, by simp; omega, fun _ => ⟨b, off, rfl, hlt, fun i hi => ?_⟩⟩, fun p hp => ?_⟩
      · have hi' : i < n := by simpa using hi
        have q := (Classical.choose_spec (key i)).2 hi'
        simp only [List.getElem_map, List.getElem_range]
        refine ⟨V i, ?_, q.2⟩
        rw [← q.1]
        unfold Addr.add
        split
        · rename_i h0; rw [h0]; rfl
        · rfl
      · obtain ⟨i, _, rfl⟩ := List.mem_map.1 hp
        exact (Classical.choose_spec (key i)).1
end VIn
end Go.Proofs.YthojgahcpkdemaaGreat

/- attempts, by their blocks, in a slice of the call's own -/
namespace Go.Proofs.YthojgahcpkdemaaGreat
open Go.RowKit Go.Bas View VIn IMap_
open Go.ChangeShapes Go.Sor
namespace Att

def ptr (b : Nat) : Value := .pointer (some ⟨b, 0, none⟩)
def PT (w : World) (base : Nat) (l : List Nat) (v : Value) : Prop := ∃ A cap, v = .slice A l.length cap ∧ w.ownsRow base 36 1 v l.length (l.map ptr)
theorem PT.kept {w w' : World} {base : Nat} {m : List Nat} {v : Value} (h : PT w base m v) (hk : ∀ k, v.ownBlock = some k → w'.heap[k]? = w.heap[k]?) : PT w' base m v := by
  obtain ⟨A, cap, rfl, hl, hr⟩ := h
  refine ⟨A, cap, rfl, hl, ?_⟩
  rcases hr with h | ⟨g, cp, cur, hv, hg, hh, r⟩
  · exact .inl h
  · exact .inr ⟨g, cp, cur, hv, hg, (hk g (by rw [hv]; rfl)).trans hh, r⟩
theorem PT.own_lt {w : World} {base : Nat} {m : List Nat} {v : Value} (h : PT w base m v) {k : Nat} (e : v.ownBlock = some k) : k < w.heap.size := by
  obtain ⟨A, cap, rfl, hl, hr⟩ := h
  rcases hr with ⟨h, _⟩ | ⟨g, cp, cur, hv, hg, hh, r⟩
  · rw [h] at e; simp [Value.ownBlock] at e
  · rw [hv] at e; simp [Value.ownBlock] at e; subst e; exact (Array.getElem?_eq_some_iff.1 hh).1
theorem PT.block {w : World} {base : Nat} {m : List Nat} {v : Value} (h : PT w base m v) {k : Nat} (e : v.ownBlock = some k) : base ≤ k := by
  obtain ⟨A, cap, rfl, hl, hr⟩ := h
  rcases hr with ⟨h, _⟩ | ⟨g, cp, cur, hv, hg, r⟩
  · rw [h] at e; simp [Value.ownBlock] at e
  · rw [hv] at e; simp [Value.ownBlock] at e; omega
theorem PT.slice {w : World} {base : Nat} {m : List Nat} {v : Value} (h : PT w base m v) : ∃ A cap, v = .slice A m.length cap := by
  obtain ⟨A, c, rfl, _⟩ := h; exact ⟨A, c, rfl⟩
theorem pt_nil (w : World) (base : Nat) : PT w base [] (.slice none 0 0) := ⟨none, 0, rfl, rfl, .inl ⟨rfl, rfl⟩⟩
theorem PT.cell {w : World} {base : Nat} {m : List Nat} {v : Value} (h : PT w base m v) {i : Nat} (hi : i < m.length) : ∃ g cap, v = .slice (some ⟨g, 0, none⟩) m.length cap ∧ v.ownBlock = some g ∧ w.cell? ⟨g, i, none⟩ = some (ptr (m.getD i 0)) := by
  obtain ⟨A, cap, rfl, hown⟩ := h
  rcases hown.2 with ⟨_, h'⟩ | ⟨g, cp, cur, hv, hg, hh, hn, hc, hs, ht⟩
  · omega
  · injection hv with e1 _ e3
    subst e1 e3
    refine ⟨g, _, rfl, rfl, ?_⟩
    have e : m.getD i 0 = m[i] := by simp [List.getD_eq_getElem?_getD, hi]
    rw [e]
    exact row_cell hh ht (by simp [hi])

theorem infoPtr : (Tryz.prog.info? 36).map (fun i => (i.zero, i.size, i.bytes)) = some (some (.pointer none), 1, 8) := by kernel_rfl
theorem run_ptr1 (w : World) (b : Nat) : (Instr.buildSlice 35 1 #[(0, ptr b)]).run Tryz.prog w = .ok (.slice (some ⟨w.heap.size, 0, none⟩) 1 1) (w.alloc (.cells #[ptr b] 36)) := by
  have hinfo : (Tryz.prog.info? 36).map (fun i => (i.zero, i.size)) = some (some (.pointer none), 1) := by kernel_rfl
  obtain ⟨i, hi, hzz⟩ := Option.map_eq_some_iff.1 hinfo
  simp only [Prod.mk.injEq] at hzz
  obtain ⟨hz, hs⟩ := hzz
  refine run_buildSlice w _ 36 1 _ #[ptr b] i _ Tryz.underlying35 hi hz (by rw [hs]; decide) (by rw [hs]; decide) ?_
  rw [hs]
  kernel_rfl
/-- one is appended, as a run -/
theorem append_ptr {w : World} {base : Nat} {out : List Nat} {v : Value} (h : PT w base out v) (hn : out.length ≤ 10000) (hb : base ≤ w.heap.size) {y : Nat} {p : Nat} (hp : w.heap[p]? = some (.cells #[ptr y] 36 (0, 0))) :
    ∃ v' w', (Builtin.append_ #[35, 35] 35 #[v, .slice (some ⟨p, 0, none⟩) 1 1]).run Tryz.prog w = .ok v' w' ∧ PT w' base (out ++ [y]) v' ∧ w.grownBy w' v.ownBlock ∧ (v'.ownBlock = v.ownBlock ∨ v'.ownBlock = some w.heap.size) := by
  obtain ⟨i0, hi0, hz0, hz1, hz2⟩ := info_parts infoPtr
  obtain ⟨A, cap, rfl, hown⟩ := h
  obtain ⟨v', w', hr, ho, hg, hb'⟩ := run_append_any (P := Tryz.prog) w base 35 35 36 i0 (.pointer none) 1 8 Tryz.underlying35 hi0 hz0 hz1 hz2 rfl (by decide) (.slice A out.length cap) out.length (out.map ptr) hown (some ⟨p, 0, none⟩) 1 1 [ptr y] rfl
    (fun _ => ⟨_, rfl, fun j u hj => by
      have hadd : (⟨p, 0, none⟩ : Addr).add j = ⟨p, j, none⟩ := by unfold Addr.add; split <;> simp_all
      rw [hadd, cell_of_row _ _ _ _ _ _ hp]; simpa using hj⟩) (by simp [ptr, Value.oneCell']) (by unfold maxLen; omega) (by omega) hb
  obtain ⟨A1, c1, rfl⟩ := own_slice ho
  exact ⟨_, w', hr, ⟨A1, c1, by simp, by simpa using ho⟩, hg, hb'⟩
end Att
end Go.Proofs.YthojgahcpkdemaaGreat

/- a group of attempts of small programs -/
namespace Go.Proofs.YthojgahcpkdemaaGreat
open Go.RowKit Go.Bas View VIn IMap_ VPlain Lay RefLay Of Small_
open Go.ChangeShapes Go.Sor
namespace Att

def tbOf (c0 : Cfg) : Int := (places (small c0)).a0
def rnOf (c0 : Cfg) (js : List (List Ins)) (i : Nat) : M → Int × M := runOf (fits (places (small c0)).a0 (js.getD i []))
def envOf (c0 : Cfg) (js : List (List Ins)) (i : Nat) : Env := env (small c0) (places (small c0)) (rnOf c0 js i)
def HowOk (T : AT) : Prop := 9 ≤ T.phase → T.how = 1 ∨ T.how = 2 ∨ T.how = 3
theorem how_fin (T : AT) {h : Int} (hh : h = 1 ∨ h = 2 ∨ h = 3) : HowOk (fin T h) := fun _ => hh
theorem how_up (T : AT) {h : Int} (hh : h = 1 ∨ h = 2 ∨ h = 3) : HowOk (giveUp T h) := fun _ => by unfold giveUp; split <;> exact hh
theorem how_low (T : AT) (h : T.phase < 9) : HowOk T := fun h9 => absurd h9 (by omega)
theorem how_step {E : Env} {T : AT} {W : List Int} (h : HowOk T) (hph : 0 ≤ T.phase ∧ T.phase ≤ 10) (hw : T.phase = 7 → T.writes.length ≠ 0) : HowOk (step E T W).1 := by
  unfold step
  by_cases c : T.phase = 10
  · rw [if_pos c]; exact h
  rw [if_neg c]
  by_cases c0 : T.phase = 0
  · rw [if_pos c0]; unfold sees; simp only; split
    · exact how_fin _ (by omega)
    · exact how_low _ (by show (1 : Int) < 9; omega)
  rw [if_neg c0]
  by_cases c1 : T.phase = 1
  · rw [if_pos c1]; unfold locked; simp only; split
    · exact how_low _ (by show (2 : Int) < 9; omega)
    · exact how_fin _ (by omega)
  rw [if_neg c1]
  by_cases c2 : T.phase = 2
  · rw [if_pos c2]; exact how_low _ (by show (3 : Int) < 9; omega)
  rw [if_neg c2]
  by_cases c3 : T.phase = 3
  · rw [if_pos c3]; unfold confirms goesOn; simp only; split
    · exact how_fin _ (by omega)
    · split
      · exact how_low _ (by show (1 : Int) < 9; omega)
      · split
        · exact how_fin _ (by omega)
        · exact how_low _ (by show (4 : Int) < 9; omega)
  rw [if_neg c3]
  by_cases c4 : T.phase = 4
  · rw [if_pos c4]; unfold looks; simp only; split
    · exact how_low _ (by show (5 : Int) < 9; omega)
    · exact how_up _ (by omega)
  rw [if_neg c4]
  by_cases c5 : T.phase = 5
  · rw [if_pos c5]; unfold grabs; simp only; split
    · exact how_low _ (by simp only; split <;> omega)
    · split
      · exact how_low _ (by simp only; split <;> omega)
      · exact how_up _ (by omega)
  rw [if_neg c5]
  by_cases c6 : T.phase = 6
  · rw [if_pos c6]; unfold bumps; simp only; split
    · exact how_up _ (by omega)
    · unfold next; exact how_low _ (by simp only; split <;> omega)
  rw [if_neg c6]
  by_cases c7 : T.phase = 7
  · rw [if_pos c7]; unfold verifies; simp only; split
    · split
      · unfold next
        by_cases hz : T.writes.length = 0
        · exact absurd hz (hw c7)
        · rw [if_neg hz]; exact how_low _ (by show (8 : Int) < 9; omega)
      · exact how_low _ (by show T.phase < 9; omega)
    · exact how_up _ (by omega)
  rw [if_neg c7]
  by_cases c8 : T.phase = 8
  · rw [if_pos c8]; unfold stores; simp only; split
    · exact fun _ => .inl rfl
    · exact how_low _ (by show T.phase < 9; omega)
  rw [if_neg c8]
  have h9 := h (by omega)
  unfold releases; simp only; split
  · exact how_fin _ h9
  · exact fun _ => h9
structure Grp (c0 : Cfg) (js : List (List Ins)) (T : Nat → AT) (W : List Int) : Prop where
  all : ∀ i, i < js.length → Okk (envOf c0 js i) (tbOf c0) 6 (T i) W ∧ Low (T i) ∧ (T i).writes.length ≤ 20 ∧ HowOk (T i)
  wb : WB W
theorem rn_len (c0 : Cfg) (js : List (List Ins)) (i : Nat) (l : M) : (rnOf c0 js i l).2.length ≤ 20 := Nat.le_trans (runOf_len _ l) (fits_len _ _)
theorem getD_sin {js : List (List Ins)} (h : ∀ j ∈ js, SIn j) (i : Nat) : SIn (js.getD i []) := by
  rw [List.getD_eq_getElem?_getD]
  cases e : js[i]? with
  | none => exact fun p hp => (List.not_mem_nil hp).elim
  | some j => exact h j (List.mem_of_getElem? e)
theorem good_of (c0 : Cfg) (js : List (List Ins)) (i : Nat) : Good (envOf c0 js i) (tbOf c0) 6 := good_small c0 _
theorem rb_of {c0 : Cfg} {js : List (List Ins)} (h : ∀ j ∈ js, SIn j) (i : Nat) : RB (envOf c0 js i) :=
  rb_run (by have := table_small c0; have := (small_fine c0).stripes; omega) (getD_sin h i)
theorem Grp.step {c0 : Cfg} {js : List (List Ins)} (hjs : ∀ j ∈ js, SIn j) {T : Nat → AT} {W : List Int} (h : Grp c0 js T W) {i : Nat} (hi : i < js.length) (hp : (T i).phase ≠ 10) :
    Grp c0 js (upd T i (Att.step (envOf c0 js i) (T i) W).1) (Att.step (envOf c0 js i) (T i) W).2 := by
  obtain ⟨h1, h2, h3, h4⟩ := h.all i hi
  have hc := (small_fine c0).clock
  have o := okk_step (good_of c0 js i) (rb_of hjs i) (by show (small c0).clock ≤ _; omega) h1 h.wb hp
  refine ⟨fun j hj => ?_, o.2⟩
  unfold upd
  by_cases e : j = i
  · subst e
    rw [if_pos rfl]
    refine ⟨o.1, low_step h2 h1.wf.ph, ?_, how_step h4 h1.wf.ph (fun h7 hz => (h1.wf.wrote (by omega)).1 (List.length_eq_zero_iff.1 hz))⟩
    rcases writes_step (envOf c0 js j) (T j) W with e | ⟨l, e⟩
    · rw [e]; exact h3
    · rw [e]; exact rn_len c0 js j l
  · rw [if_neg e]
    obtain ⟨a1, a2, a3⟩ := h.all j hj
    exact ⟨⟨a1.wf, a1.nb, a1.st, o.1.len⟩, a2, a3⟩
theorem Grp.new (c0 : Cfg) (js : List (List Ins)) (hn : js.length ≤ 64) {W : List Int} (hl : (W.length : Int) = (places (small c0)).a11) (hW : WB W) : Grp c0 js (fun i => newT i) W :=
  ⟨fun i hi => ⟨Okk.new (by omega) hl, Low.new _, Nat.zero_le _, fun h => by have h : (9 : Int) ≤ 0 := h; omega⟩, hW⟩
def muG (c0 : Cfg) (t : AT) : Int := mu (small c0).stripes 6 t
theorem Grp.mu0 {c0 : Cfg} {js : List (List Ins)} {T : Nat → AT} {W : List Int} (h : Grp c0 js T W) {i : Nat} (hi : i < js.length) : 0 ≤ muG c0 (T i) := mu_nonneg (good_of c0 js i) (h.all i hi).1.wf
theorem Grp.less {c0 : Cfg} {js : List (List Ins)} {T : Nat → AT} {W : List Int} (h : Grp c0 js T W) {i : Nat} (hi : i < js.length) (hp : (T i).phase ≠ 10) : muG c0 (Att.step (envOf c0 js i) (T i) W).1 + 1 ≤ muG c0 (T i) :=
  (ok_step (good_of c0 js i) (h.all i hi).1.wf W hp).less
theorem muG_new (c0 : Cfg) (o : Int) : muG c0 (newT o) ≤ 285 := by
  have F := (small_fine c0).stripes
  unfold muG mu newT; simp; omega

/-- in memory, with what is kept of it -/
def QW (Q : (Nat → AT) → List Int → Prop) (w : World) (S K : Nat → Prop) (a g : Nat) (c0 : Cfg) (js : List (List Ins)) (bs : Nat → Nat) (T : Nat → AT) (m : Nat) : Prop :=
  ∃ W c, Many w S K a g js.length (small c0) (places (small c0)) bs (rnOf c0 js) T W c ∧ Grp c0 js T W ∧ Q T W ∧ 0 ≤ c ∧ c ≤ m
/-- what each step keeps -/
def Keeps (c0 : Cfg) (js : List (List Ins)) (Q : (Nat → AT) → List Int → Prop) : Prop :=
  ∀ T W i, i < js.length → Grp c0 js T W → Q T W → (T i).phase ≠ 10 → Q (upd T i (Att.step (envOf c0 js i) (T i) W).1) (Att.step (envOf c0 js i) (T i) W).2
theorem QW.below {Q : (Nat → AT) → List Int → Prop} {w w' : World} {S K : Nat → Prop} {a g : Nat} {c0 : Cfg} {js : List (List Ins)} {bs : Nat → Nat} {T : Nat → AT} {m : Nat} (h : QW Q w S K a g c0 js bs T m) (hb : Below w.heap.size w w') : QW Q w' S K a g c0 js bs T m := by
  obtain ⟨W, c, h1, h2⟩ := h; exact ⟨W, c, h1.below hb, h2⟩
theorem QW.more {Q : (Nat → AT) → List Int → Prop} {w : World} {S K : Nat → Prop} {a g : Nat} {c0 : Cfg} {js : List (List Ins)} {bs : Nat → Nat} {T : Nat → AT} {m m' : Nat} (h : QW Q w S K a g c0 js bs T m) (hm : m ≤ m') : QW Q w S K a g c0 js bs T m' := by
  obtain ⟨W, c, h1, h2, h3, h4, h5⟩ := h; exact ⟨W, c, h1, h2, h3, h4, by omega⟩
theorem QW.kept {Q : (Nat → AT) → List Int → Prop} {w : World} {S K : Nat → Prop} {a g : Nat} {c0 : Cfg} {js : List (List Ins)} {bs : Nat → Nat} {T : Nat → AT} {m : Nat} (h : QW Q w S K a g c0 js bs T m) : ∀ k, K k → k < w.heap.size := by
  obtain ⟨W, c, h1, _⟩ := h; exact fun k hk => (h1.kept k hk).1
theorem QW.mu0 {Q : (Nat → AT) → List Int → Prop} {w : World} {S K : Nat → Prop} {a g : Nat} {c0 : Cfg} {js : List (List Ins)} {bs : Nat → Nat} {T : Nat → AT} {m : Nat} (h : QW Q w S K a g c0 js bs T m) {i : Nat} (hi : i < js.length) : 0 ≤ muG c0 (T i) := by
  obtain ⟨W, c, h1, h2, _⟩ := h; exact h2.mu0 hi
theorem qw_step {Q : (Nat → AT) → List Int → Prop} {w : World} {S K : Nat → Prop} {a g : Nat} {c0 : Cfg} {js : List (List Ins)} {bs : Nat → Nat} {T : Nat → AT} {m : Nat} (hjs : ∀ j ∈ js, SIn j) (hQ : Keeps c0 js Q) (h : QW Q w S K a g c0 js bs T m) {i : Nat} (hi : i < js.length) (hm : m ≤ 1000000) :
    Calls Tryz.prog 16 #[.pointer (some ⟨bs i, 0, none⟩), .pointer (some ⟨a, 0, none⟩)] w fun e w' => ∃ T', e = .returned (.int .i64 (told (T' i))) ∧ QW Q w' S K a g c0 js bs T' (m + 1) ∧ Chg (fun k => ¬ K k) w w' ∧
      ((T i).phase = 10 ∧ T' = T ∨ (T i).phase ≠ 10 ∧ muG c0 (T' i) + 1 ≤ muG c0 (T i)) ∧ ∀ j, j ≠ i → T' j = T j := by
  obtain ⟨W, c, h1, h2, h3, h4, h5⟩ := h
  have F := small_fine c0
  have hst := F.stripes; have hck := F.clock
  by_cases hp : (T i).phase = 10
  · obtain ⟨X, I⟩ := h1.row hi
    refine (step_over I.row hp _).mono ?_
    rintro e w' ⟨rfl, hb⟩
    refine ⟨T, rfl, ⟨W, c, h1.below hb, h2, h3, h4, by omega⟩, (Chg.of_below hb).mono (fun k hk hge hK => ?_), .inl ⟨hp, rfl⟩, fun _ _ => rfl⟩
    have := (h1.kept k hK).1; omega
  · obtain ⟨o1, o2, o3, o4⟩ := h2.all i hi
    refine (h1.step hi (good_of c0 js i) (by omega) hst.2 (by omega) (fun l => by have := rn_len c0 js i l; omega) o1 o2 h2.wb (by omega) hp).mono ?_
    rintro e w' ⟨rfl, hM, hC⟩
    refine ⟨upd T i (Att.step (envOf c0 js i) (T i) W).1, by unfold upd; rw [if_pos rfl]; rfl, ⟨_, _, hM, h2.step hjs hi hp, hQ T W i hi h2 h3 hp, ?_⟩, hC, .inr ⟨hp, ?_⟩, fun j hj => by unfold upd; rw [if_neg hj]⟩
    · unfold cnt; split <;> omega
    · unfold upd; rw [if_pos rfl]; exact h2.less hi hp
/-- what the last step told -/
theorem QW.told {Q : (Nat → AT) → List Int → Prop} {w : World} {S K : Nat → Prop} {a g : Nat} {c0 : Cfg} {js : List (List Ins)} {bs : Nat → Nat} {T : Nat → AT} {m : Nat} (h : QW Q w S K a g c0 js bs T m) {i : Nat} (hi : i < js.length) :
    ((T i).phase ≠ 10 ∧ told (T i) = 0) ∨ ((T i).phase = 10 ∧ (told (T i) = 1 ∨ told (T i) = 2 ∨ told (T i) = 3)) := by
  obtain ⟨W, c, h1, h2, _⟩ := h
  by_cases hp : (T i).phase = 10
  · have := (h2.all i hi).2.2.2 (by omega)
    refine .inr ⟨hp, ?_⟩
    unfold Att.told; rw [if_pos hp]; exact this
  · exact .inl ⟨hp, by unfold Att.told; rw [if_neg hp]⟩
end Att
end Go.Proofs.YthojgahcpkdemaaGreat

/- attempts are made, one behind the other -/
namespace Go.Proofs.YthojgahcpkdemaaGreat
open Go.RowKit Go.Bas View VIn IMap_ VPlain Lay RefLay Of Small_
open Go.ChangeShapes Go.Sor
namespace Att

structure L1 (w0 wr : World) (base : Nat) (S K : Nat → Prop) (a g : Nat) (c0 : Cfg) (js : List (List Ins)) (bs : Nat → Nat) (k : Nat) (v : Value) (l : Nat) (W : List Int) (c : Int) : Prop where
  pt : PT wr base ((List.range k).map bs) v
  many : Many wr S K a g k (small c0) (places (small c0)) bs (rnOf c0 js) (fun i => newT i) W c
  low : ∀ j, j < base → j ≠ a → j ≠ g → K j
  own : ∀ q, v.ownBlock = some q → K q ∧ ¬ S q
  bel : Below base w0 wr
  row : wr.heap[l]? = some (.cells (lay (small c0) (places (small c0))) 29 (0, 0))
  hl : base ≤ wr.heap.size
  sb : ∀ q, S q → base ≤ q
theorem L1.next {w0 wr w5 w6 w7 : World} {base : Nat} {S K S0 : Nat → Prop} {a g : Nat} {c0 : Cfg} {js : List (List Ins)} {bs : Nat → Nat} {k : Nat} {v v' : Value} {l b : Nat} {W : List Int} {c : Int} {prog : Value} (h : L1 w0 wr base S K a g c0 js bs k v l W c) (hlv : ∀ q, v.ownBlock = some q → q ≠ l)
    (hb5 : Below wr.heap.size wr w5) (hr : Row w5 b (newV (small c0) (places (small c0)) prog) (newT k)) (hbn : wr.heap.size ≤ b) (hR : Runs w5 S0 prog (rnOf c0 js k)) (hS0 : ∀ q, S0 q → wr.heap.size ≤ q ∧ q < w5.heap.size ∧ q ≠ b)
    (hb6 : Below w5.heap.size w5 w6) (hpt : PT w7 base ((List.range k).map bs ++ [b]) v') (hg : w6.grownBy w7 v.ownBlock) (ho : v'.ownBlock = v.ownBlock ∨ v'.ownBlock = some w6.heap.size) :
    ∃ bs' S' K', L1 w0 w7 base S' K' a g c0 js bs' (k + 1) v' l W c ∧ ∀ q, v'.ownBlock = some q → q ≠ l := by
  have h5 := hb5.size; have h6 := hb6.size
  have hwr : base ≤ wr.heap.size := h.hl
  have hbl := hr.lt
  have M5 := h.many.push (S' := fun q => S q ∨ S0 q) (K' := fun q => K q ∨ S0 q) hb5 hr hbn (hR.mono fun q hq => .inr hq) (fun q hq => .inl hq) (fun q hq => hq.imp (h.many.sub q) id) (fun q hq hn => hS0 q (hq.resolve_left hn))
  have e1 : (fun i => if i = k then rnOf c0 js k else rnOf c0 js i) = rnOf c0 js := funext fun i => by by_cases e : i = k <;> simp [e]
  have e2 : (fun i => if i = k then newT (k : Int) else newT i) = fun i : Nat => newT i := funext fun i => by by_cases e : i = k <;> simp [e]
  rw [e1, e2] at M5
  have M6 := M5.below hb6
  have vlt : ∀ q, v.ownBlock = some q → q < wr.heap.size := fun q hq => h.pt.own_lt hq
  have g7 : w6.heap.size ≤ w7.heap.size := hg.size
  have keep : ∀ q, q < w6.heap.size → v.ownBlock ≠ some q → w7.heap[q]? = w6.heap[q]? := fun q hq hne => hg.block q hq (fun e => hne e.symm)
  have M7 := M6.after (w' := w7) (K' := fun q => (K q ∨ S0 q) ∨ v'.ownBlock = some q) g7 (fun q hq hk => keep q hq fun e => by
      have o := h.own q e
      rcases hk with hk | hk
      · exact hk (.inl o.1)
      · rcases hk with hk | hk
        · exact o.2 hk
        · have := hS0 q hk; have := vlt q e; omega) (fun q hq => by
      rcases hq with hq | hq
      · exact .inl hq
      · rcases ho with e | e
        · rw [e] at hq; exact .inl (.inl (h.own q hq).1)
        · have := hpt.own_lt hq
          rw [e] at hq; cases hq
          exact .inr ⟨Nat.le_refl _, this⟩) (fun q hq => .inl (hq.imp (h.many.sub q) id))
  have lw : l < wr.heap.size := (Array.getElem?_eq_some_iff.1 h.row).1
  refine ⟨_, _, _, ⟨?_, M7, fun j h1 h2 h3 => .inl (.inl (h.low j h1 h2 h3)), fun q hq => ⟨.inr hq, ?_⟩, ?_, ?_, by omega, fun q hq => hq.elim (h.sb q) (fun h0 => Nat.le_trans hwr (hS0 q h0).1)⟩, fun q hq => ?_⟩
  · have e3 : (List.range (k + 1)).map (fun i => if i = k then b else bs i) = (List.range k).map bs ++ [b] := by
      rw [List.range_succ, List.map_append]
      congr 1
      · apply List.map_congr_left
        intro i hi
        have := List.mem_range.1 hi
        rw [if_neg (by omega)]
      · simp
    rw [e3]; exact hpt
  · rcases ho with e | e
    · rw [e] at hq
      rintro (hh | hh)
      · exact (h.own q hq).2 hh
      · have := hS0 q hh; have := vlt q hq; omega
    · rw [e] at hq; cases hq
      rintro (hh | hh)
      · have := (h.many.kept _ (h.many.sub _ hh)).1; omega
      · have := hS0 _ hh; omega
  · exact ((h.bel.trans (hb5.mono hwr)).trans (hb6.mono (by omega))).grown hg (by omega) (fun j hj => h.pt.block hj)
  · rw [keep l (by omega) (fun e => hlv l e rfl), hb6.block l (by omega), hb5.block l lw]; exact h.row
  · rcases ho with e | e
    · rw [e] at hq; exact hlv q hq
    · rw [e] at hq; cases hq; omega
theorem L1.zero {w0 wr : World} {base a g l : Nat} {c0 : Cfg} {js : List (List Ins)} {W : List Int} {c : Int} (hb : Below base w0 wr) (hbs : w0.heap.size = base) (hA : Ar wr a g W c) (hr : wr.heap[l]? = some (.cells (lay (small c0) (places (small c0))) 29 (0, 0))) :
    L1 w0 wr base (fun _ => False) (fun j => j < base ∧ j ≠ a ∧ j ≠ g) a g c0 js (fun _ => 0) 0 (.slice none 0 0) l W c :=
  ⟨pt_nil _ _, Many.zero hA (fun k hk => ⟨by have := hb.size; omega, hk.2⟩) (fun k h => h.elim), fun j h1 h2 h3 => ⟨h1, h2, h3⟩, fun q hq => by simp [Value.ownBlock] at hq, hb, hr, by have := hb.size; omega, fun q h => h.elim⟩
end Att
end Go.Proofs.YthojgahcpkdemaaGreat

/- attempts make steps -/
namespace Go.Proofs.YthojgahcpkdemaaGreat
open Go.RowKit Go.Bas View VIn IMap_ VPlain Lay RefLay Of Small_
open Go.ChangeShapes Go.Sor
namespace Att

structure L2 (Q : (Nat → AT) → List Int → Prop) (w0 wr : World) (base : Nat) (S K : Nat → Prop) (a g : Nat) (c0 : Cfg) (js : List (List Ins)) (bs : Nat → Nat) (v : Value) (B0 : Nat) (v3 : Value) (ss : List Int) (T : Nat → AT) (m : Nat) : Prop where
  qw : QW Q wr S K a g c0 js bs T m
  pt : PT wr base ((List.range js.length).map bs) v
  own : ∀ q, v.ownBlock = some q → K q
  low : ∀ j, j < base → j ≠ a → j ≠ g → K j
  wd : View.Words wr B0 v3 ss
  hB : B0 ≤ a ∧ B0 ≤ g ∧ B0 ≤ base
  chg : Chg (fun k => k = a ∨ k = g ∨ base ≤ k) w0 wr
  hb : base ≤ wr.heap.size
  sb : ∀ q, S q → base ≤ q
theorem L1.two {Q : (Nat → AT) → List Int → Prop} {w0 wr : World} {base : Nat} {S K : Nat → Prop} {a g : Nat} {c0 : Cfg} {js : List (List Ins)} {bs : Nat → Nat} {v : Value} {l : Nat} {W : List Int} {c : Int} {B0 : Nat} {v3 : Value} {ss : List Int} (h : L1 w0 wr base S K a g c0 js bs js.length v l W c) (hbs : w0.heap.size = base) (hn : js.length ≤ 64)
    (hl : (W.length : Int) = (places (small c0)).a11) (hW : WB W) (hQ : Q (fun i => newT i) W) (hc : 0 ≤ c ∧ c ≤ 1000) (hw : View.Words w0 B0 v3 ss) (hB : B0 ≤ a ∧ B0 ≤ g ∧ B0 ≤ base) : L2 Q w0 wr base S K a g c0 js bs v B0 v3 ss (fun i => newT i) 1000 := by
  have hs := h.bel.size
  exact ⟨⟨W, c, h.many, Grp.new c0 js hn hl hW, hQ, hc.1, hc.2⟩, h.pt, fun q hq => (h.own q hq).1, h.low, hw.below (h.bel.mono hB.2.2), hB, (Chg.of_below h.bel).mono (fun k _ hk => .inr (.inr hk)), by omega, h.sb⟩
theorem L2.step {Q : (Nat → AT) → List Int → Prop} {w0 wr : World} {base : Nat} {S K : Nat → Prop} {a g : Nat} {c0 : Cfg} {js : List (List Ins)} {bs : Nat → Nat} {v : Value} {B0 : Nat} {v3 : Value} {ss : List Int} {T : Nat → AT} {m : Nat} (hjs : ∀ j ∈ js, SIn j) (hQ : Keeps c0 js Q) (h : L2 Q w0 wr base S K a g c0 js bs v B0 v3 ss T m) {i : Nat} (hi : i < js.length) (hm : m ≤ 1000000) :
    Calls Tryz.prog 16 #[.pointer (some ⟨bs i, 0, none⟩), .pointer (some ⟨a, 0, none⟩)] wr fun e w' => ∃ T', e = .returned (.int .i64 (told (T' i))) ∧ L2 Q w0 w' base S K a g c0 js bs v B0 v3 ss T' (m + 1) ∧
      ((T i).phase = 10 ∧ T' = T ∨ (T i).phase ≠ 10 ∧ muG c0 (T' i) + 1 ≤ muG c0 (T i)) ∧ ∀ j, j ≠ i → T' j = T j := by
  refine (qw_step hjs hQ h.qw hi hm).mono ?_
  rintro e w' ⟨T', rfl, h1, h2, h3, h4⟩
  have kp := h.qw.kept
  have KK : ∀ k, K k → w'.heap[k]? = wr.heap[k]? := fun k hk => h2.block k (kp k hk) (fun hn => hn hk)
  refine ⟨T', rfl, ⟨h1, h.pt.kept fun q hq => KK q (h.own q hq), h.own, h.low, h.wd.keep fun k hk _ => KK k (h.low k (by have := h.hB; omega) (by have := h.hB; omega) (by have := h.hB; omega)), h.hB, h.chg.trans (h2.mono fun k _ hk => ?_), Nat.le_trans h.hb h2.size, h.sb⟩, h3, h4⟩
  by_cases e1 : k = a
  · exact .inl e1
  · by_cases e2 : k = g
    · exact .inr (.inl e2)
    · exact .inr (.inr (Nat.le_of_not_lt fun hlt => hk (h.low k hlt e1 e2)))
theorem L2.more {Q : (Nat → AT) → List Int → Prop} {w0 wr : World} {base : Nat} {S K : Nat → Prop} {a g : Nat} {c0 : Cfg} {js : List (List Ins)} {bs : Nat → Nat} {v : Value} {B0 : Nat} {v3 : Value} {ss : List Int} {T : Nat → AT} {m m' : Nat} (h : L2 Q w0 wr base S K a g c0 js bs v B0 v3 ss T m) (hm : m ≤ m') : L2 Q w0 wr base S K a g c0 js bs v B0 v3 ss T m' :=
  ⟨h.qw.more hm, h.pt, h.own, h.low, h.wd, h.hB, h.chg, h.hb, h.sb⟩
/-- one of them, out of the slice -/
theorem L2.cell {Q : (Nat → AT) → List Int → Prop} {w0 wr : World} {base : Nat} {S K : Nat → Prop} {a g : Nat} {c0 : Cfg} {js : List (List Ins)} {bs : Nat → Nat} {v : Value} {B0 : Nat} {v3 : Value} {ss : List Int} {T : Nat → AT} {m : Nat} (h : L2 Q w0 wr base S K a g c0 js bs v B0 v3 ss T m) {i : Nat} (hi : i < js.length) :
    ∃ p cap, v = .slice (some ⟨p, 0, none⟩) js.length cap ∧ wr.cell? ⟨p, i, none⟩ = some (.pointer (some ⟨bs i, 0, none⟩)) := by
  obtain ⟨p, cap, h1, _, h2⟩ := h.pt.cell (i := i) (by simpa using hi)
  refine ⟨p, cap, by simpa using h1, ?_⟩
  rw [h2]
  have e : ((List.range js.length).map bs).getD i 0 = bs i := by rw [List.getD_eq_getElem?_getD, List.getElem?_map, List.getElem?_range hi]; rfl
  rw [e]; rfl
theorem L2.slice {Q : (Nat → AT) → List Int → Prop} {w0 wr : World} {base : Nat} {S K : Nat → Prop} {a g : Nat} {c0 : Cfg} {js : List (List Ins)} {bs : Nat → Nat} {v : Value} {B0 : Nat} {v3 : Value} {ss : List Int} {T : Nat → AT} {m : Nat} (h : L2 Q w0 wr base S K a g c0 js bs v B0 v3 ss T m) : ∃ A cap, v = .slice A js.length cap := by
  obtain ⟨A, cap, e⟩ := h.pt.slice
  exact ⟨A, cap, by simpa using e⟩
theorem L2.mu0 {Q : (Nat → AT) → List Int → Prop} {w0 wr : World} {base : Nat} {S K : Nat → Prop} {a g : Nat} {c0 : Cfg} {js : List (List Ins)} {bs : Nat → Nat} {v : Value} {B0 : Nat} {v3 : Value} {ss : List Int} {T : Nat → AT} {m : Nat} (h : L2 Q w0 wr base S K a g c0 js bs v B0 v3 ss T m) {i : Nat} (hi : i < js.length) : 0 ≤ muG c0 (T i) := h.qw.mu0 hi
theorem L2.cell1 {Q : (Nat → AT) → List Int → Prop} {w0 wr : World} {base : Nat} {S K : Nat → Prop} {a g : Nat} {c0 : Cfg} {js : List (List Ins)} {bs : Nat → Nat} {p n cap : Nat} {B0 : Nat} {v3 : Value} {ss : List Int} {T : Nat → AT} {m : Nat} (h : L2 Q w0 wr base S K a g c0 js bs (.slice (some ⟨p, 0, none⟩) n cap) B0 v3 ss T m) {i : Nat} (hi : i < js.length) :
    wr.cell? ⟨p, i, none⟩ = some (.pointer (some ⟨bs i, 0, none⟩)) := by
  obtain ⟨p', cap', e, h2⟩ := h.cell hi
  injection e with e1 _ _
  injection e1 with e1
  injection e1 with e1
  rw [e1]; exact h2
theorem L2.below {Q : (Nat → AT) → List Int → Prop} {w0 wr : World} {base : Nat} {S K : Nat → Prop} {a g : Nat} {c0 : Cfg} {js : List (List Ins)} {bs : Nat → Nat} {v : Value} {B0 : Nat} {v3 : Value} {ss : List Int} {T : Nat → AT} {m : Nat} (h : L2 Q w0 wr base S K a g c0 js bs v B0 v3 ss T m) {w' : World} (hb : Below wr.heap.size wr w') : L2 Q w0 w' base S K a g c0 js bs v B0 v3 ss T m := by
  have hB := h.hB; have hbb := h.hb
  exact ⟨h.qw.below hb, h.pt.kept fun q hq => hb.block q (h.pt.own_lt hq), h.own, h.low, h.wd.below (hb.mono (by omega)), h.hB, h.chg.trans ((Chg.of_below hb).mono fun k _ hk => .inr (.inr (by omega))), Nat.le_trans h.hb hb.size, h.sb⟩
theorem L2.over {Q : (Nat → AT) → List Int → Prop} {w0 wr : World} {base : Nat} {S K : Nat → Prop} {a g : Nat} {c0 : Cfg} {js : List (List Ins)} {bs : Nat → Nat} {v : Value} {B0 : Nat} {v3 : Value} {ss : List Int} {T : Nat → AT} {m : Nat} (h : L2 Q w0 wr base S K a g c0 js bs v B0 v3 ss T m) {i : Nat} (hi : i < js.length) (hp : (T i).phase = 10) (u : Value) :
    Calls Tryz.prog 16 #[.pointer (some ⟨bs i, 0, none⟩), u] wr fun e w' => e = .returned (.int .i64 (told (T i))) ∧ Below wr.heap.size wr w' := by
  obtain ⟨W, c, h1, _⟩ := h.qw
  obtain ⟨X, I⟩ := h1.row hi
  exact step_over I.row hp u
theorem L2.writes {Q : (Nat → AT) → List Int → Prop} {w0 wr : World} {base : Nat} {S K : Nat → Prop} {a g : Nat} {c0 : Cfg} {js : List (List Ins)} {bs : Nat → Nat} {v : Value} {B0 : Nat} {v3 : Value} {ss : List Int} {T : Nat → AT} {m : Nat} (h : L2 Q w0 wr base S K a g c0 js bs v B0 v3 ss T m) {i : Nat} (hi : i < js.length) :
    Calls Tryz.prog 24 #[.pointer (some ⟨bs i, 0, none⟩)] wr fun e w' => ∃ A c, e = .returned (.slice A (wroteB (T i)).length c) ∧ Below wr.heap.size wr w' := by
  obtain ⟨W, c, h1, h2, _⟩ := h.qw
  obtain ⟨X, I⟩ := h1.row hi
  have := (h2.all i hi).2.2.1
  refine (writes_any I (by omega)).mono ?_
  rintro e w' ⟨u, rfl, h3, h4⟩
  obtain ⟨A, c, rfl⟩ := told_slice h3
  exact ⟨A, c, rfl, h4⟩
theorem L2.words {Q : (Nat → AT) → List Int → Prop} {w0 wr : World} {base : Nat} {S K : Nat → Prop} {a g : Nat} {c0 : Cfg} {js : List (List Ins)} {bs : Nat → Nat} {v : Value} {B0 : Nat} {v3 : Value} {ss : List Int} {T : Nat → AT} {m : Nat} (h : L2 Q w0 wr base S K a g c0 js bs v B0 v3 ss T m) (hn : 0 < js.length) : ∃ W, Q T W ∧
    Calls Tryz.prog 26 #[.pointer (some ⟨a, 0, none⟩)] wr fun e w' => ∃ b, e = .returned (.slice (some ⟨b, 0, none⟩) W.length W.length) ∧ wr.heap.size ≤ b ∧ w'.heap[b]? = some (.cells (W.map (Value.int .i64)).toArray 3 (0, 0)) ∧ Below wr.heap.size wr w' := by
  obtain ⟨W, c, h1, h2, h3, _⟩ := h.qw
  refine ⟨W, h3, words_told h1.ar ?_⟩
  have := (h2.all 0 hn).1.len
  have e : (envOf c0 js 0).words = (places (small c0)).a11 := rfl
  have hw := words_in (small_fine c0)
  rw [e, places_words] at this
  omega
theorem row_words {w : World} {b : Nat} {W : List Int} (hm : W.length ≤ 1000000) (h : w.heap[b]? = some (.cells (W.map (Value.int .i64)).toArray 3 (0, 0))) : View.Words w w.heap.size (.slice (some ⟨b, 0, none⟩) W.length W.length) W :=
  ⟨_, _, rfl, by unfold maxLen; omega, fun _ => ⟨b, 0, rfl, (Array.getElem?_eq_some_iff.1 h).1, fun i hi => by rw [Nat.zero_add, cell_of_row _ _ _ _ _ _ h]; simp [hi]⟩⟩
/-- when the clock can not go on -/
def QSpent (js : List (List Ins)) (W1 : List Int) (T : Nat → AT) (W : List Int) : Prop := W = W1 ∧ ∀ i : Nat, i < js.length → T i = newT i ∨ ((T i).phase = 10 ∧ (T i).how = 3)
theorem spent_keeps {c0 : Cfg} {js : List (List Ins)} {W1 : List Int} (h1 : (small c0).clock ≤ ld W1 1) : Keeps c0 js (QSpent js W1) := by
  rintro T W i hi hG ⟨rfl, hq⟩ hp
  rcases hq i hi with e | ⟨e, _⟩
  · have e2 : Att.step (envOf c0 js i) (T i) W = (sees (envOf c0 js i) (T i) W, W) := by unfold Att.step; rw [if_neg hp, if_pos (by rw [e]; rfl)]
    rw [e2]
    refine ⟨rfl, fun j hj => ?_⟩
    unfold upd
    by_cases ej : j = i
    · rw [if_pos ej]
      refine .inr ?_
      unfold sees; simp only
      rw [if_pos (show (envOf c0 js i).clock ≤ ld W 1 from h1)]
      exact ⟨rfl, rfl⟩
    · rw [if_neg ej]; exact hq j hj
  · exact absurd e hp
theorem wroteB_spent {T : AT} (h : T.phase = 10 ∧ T.how = 3) : wroteB T = [] ∧ told T = 3 := by
  unfold wroteB sureB told
  rw [h.1, h.2]; exact ⟨rfl, rfl⟩
end Att
end Go.Proofs.YthojgahcpkdemaaGreat

/- attempts, by a script, and then each to its end -/
namespace Go.Proofs.YthojgahcpkdemaaGreat
open Go.RowKit Go.Bas View VIn IMap_ VPlain Lay RefLay Of Small_
open Go.ChangeShapes Go.Sor Go.WideShapes
open Go.Proofs.YthojgahcpkdemaaGreatW.PrintLast
namespace Att

set_option maxRecDepth 100000 in
set_option maxHeartbeats 8000000 in
theorem run_any {c0 : Cfg} {js : List (List Ins)} {ss : List Int} {Q : (Nat → AT) → List Int → Prop} {w0 : World} {a g B0 : Nat} {W : List Int} {c : Int} {v2 v3 : Value} (hA : Ar w0 a g W c) (hc : 0 ≤ c ∧ c ≤ 1000) (hlen : (W.length : Int) = (places (small c0)).a11) (hWB : WB W)
    (hJ : VIn.Jobs w0 B0 v2 js) (hjs : ∀ j ∈ js, SIn j) (hn : 1 ≤ js.length ∧ js.length ≤ 4) (hS : View.Words w0 B0 v3 ss) (hss : ss.length ≤ 400) (hB : B0 ≤ a ∧ B0 ≤ g ∧ B0 ≤ w0.heap.size) (hQ : Keeps c0 js Q) (hQ0 : Q (fun i => newT i) W) :
    Calls Tryz.prog 18 #[.agg (lay (small c0) (places (small c0))), .pointer (some ⟨a, 0, none⟩), v2, v3] w0 fun e w' => ∃ v bs S K T m, e = .returned v ∧ L2 Q w0 w' w0.heap.size S K a g c0 js bs v B0 v3 ss T m ∧ m ≤ 100000 ∧ ∀ i, i < js.length → (T i).phase = 10 := by
  obtain ⟨base, hbase⟩ : ∃ base, w0.heap.size = base := ⟨_, rfl⟩
  have F := small_fine c0
  have hpg := F.pages
  have htb : 0 ≤ (places (small c0)).a0 ∧ (places (small c0)).a0 ≤ 1000000 := by have := table_small c0; have := F.stripes; omega
  have TB := fun w => table_at (small c0) (places (small c0)) ⟨hpg.1, by omega⟩ htb w
  have MD := fun (i : Nat) (pc : Nat) w => made_any (small c0) (places (small c0)) i (.func 43) #[] #[.pointer (some ⟨pc, 0, none⟩)] w
  obtain ⟨lv, hlv⟩ : ∃ lv, lay (small c0) (places (small c0)) = lv := ⟨_, rfl⟩
  have hls : (Tryz.prog.info? 29).map (·.size) = some lv.size := by rw [← hlv]; exact lay_size _ _
  obtain ⟨tb, htbv⟩ : ∃ tb, (places (small c0)).a0 = tb := ⟨_, rfl⟩
  rw [hlv, htbv] at TB
  rw [hlv] at MD ⊢
  rw [htbv] at htb
  obtain ⟨A2, cp2, rfl, hm2, hJ2⟩ := id hJ
  obtain ⟨A3, cp3, rfl, hm3, hS3⟩ := id hS
  obtain ⟨n, hnn⟩ : ∃ n, js.length = n := ⟨_, rfl⟩
  obtain ⟨sn, hsn⟩ : ∃ sn, ss.length = sn := ⟨_, rfl⟩
  have HTB := Lib.hid TB; have HMD := Lib.hid MD; have HLS := Lib.hid hls; have HTI := Lib.hid htb; have HLVE := Lib.hid hlv; have HTBV := Lib.hid htbv
  have HJ := Lib.hid hJ; have HS := Lib.hid hS; have HJS := Lib.hid hjs; have HQ := Lib.hid hQ; have HQ0 := Lib.hid hQ0; have HWB := Lib.hid hWB; have HLEN := Lib.hid hlen; have HC := Lib.hid hc
  rw [hbase] at hB
  rw [hnn] at hn; rw [hsn] at hss
  have HNN := Lib.hid hnn; have HSN := Lib.hid hsn; have HN4 : Hid (n ≤ 4) := hn.2; have HB := Lib.hid hB
  obtain ⟨w1, hw1⟩ : ∃ w1, w0.alloc (.cells lv 29) = w1 := ⟨_, rfl⟩
  have R1 : w1.heap[base]? = some (.cells lv 29 (0, 0)) := by rw [← hw1, ← hbase]; exact new_row _ _ _
  have B1 : Below base w0 w1 := by rw [← hw1, ← hbase]; exact (Below.refl _ _).alloc (Nat.le_refl _) _
  have hAl := hA.lt
  have L10 : Hid (L1 w0 w1 base (fun _ => False) (fun j => j < base ∧ j ≠ a ∧ j ≠ g) a g c0 js (fun _ => 0) 0 (.slice none 0 0) base W c) := L1.zero B1 hbase (hA.below (by rw [hbase]; exact B1)) (by rw [hlv]; exact R1)
  have HBS := Lib.hid hbase
  rw [hnn, hsn, hbase]
  clear TB MD hls htb hlv htbv hJ hS hjs hQ hQ0 hWB hlen hc hnn hsn hB hm2 hJ2 hm3 hS3 hA hAl F hpg B1 R1
  go_enter Tryz.func18, Tryz.ntmps18
  go_upto_region 3 with fail
  go_loopw [10, 9] (fun u10 u9 wr => ∃ (k : Nat) (bs : Nat → Nat) (S K : Nat → Prop), k ≤ n ∧ u10 = .int .i64 k ∧ Hid (L1 w0 wr base S K a g c0 js bs k u9 base W c) ∧ Hid (∀ q, u9.ownBlock = some q → q ≠ base)) (fun u10 _ _ => n - (intOf u10).toNat)
  case atStart => exact ⟨0, _, _, _, by omega, rfl, L10, fun q hq => by simp [Value.ownBlock] at hq⟩
  case round =>
    clear L10
    obtain ⟨k, bs, S, K, hk, rfl, HL1, HLV⟩ := hrel
    have hbw : base ≤ wr.heap.size := by have := HL1.out.bel.size; have := HBS.out; omega
    by_cases hlt : k < n
    · obtain ⟨A9, c9, e9⟩ := HL1.out.pt.slice
      rw [List.length_map, List.length_range] at e9
      subst e9
      obtain ⟨Aj, cj, ej, hmj, hcj⟩ := HJ.out.below (HL1.out.bel.mono HB.out.2.2)
      injection ej with ej1 ej2 ej3
      subst ej1
      have hkl : k < js.length := by rw [HNN.out]; exact hlt
      obtain ⟨jb, off, rfl, hjb, hcell⟩ := hcj (by omega)
      obtain ⟨sv, hsv, hst⟩ := hcell k hkl
      have ejk : js[k] = js.getD k [] := by rw [List.getD_eq_getElem?_getD, List.getElem?_eq_getElem hkl]; rfl
      rw [ejk] at hst
      have LR : Hid (wr.heap[base]? = some (.cells lv 29 (0, 0)) ∧ wr.cell? ⟨jb, off + k, none⟩ = some sv) := ⟨by rw [← HLVE.out]; exact HL1.out.row, hsv⟩
      have STS := Lib.hid hst
      have JB : Hid (jb < B0 ∧ B0 ≤ base ∧ base ≤ wr.heap.size) := ⟨hjb, HB.out.2.2, hbw⟩
      have HBW := Lib.hid hbw
      clear hsv hst hcell hcj hjb ej2 ej3 hmj ejk hkl
      go_upto_region 5 with fail
      refine start_ (n := 15) (S := fun w' => w'.heap[base]? = some (.cells lv 29 (0, 0)) ∧ w'.cell? ⟨jb, off + k, none⟩ = some sv) (ds := []) #[false, false, false, false, false, false, false, false, false, false, false, false, false, false, false] (by kernel_rfl) rfl rfl ⟨LR.out.1, LR.out.2⟩ (fun hHeld => ?_)
      refine pure_ (i := 0) (N := (some 20)) (v := ?_) (a' := ?_) #[true, false, false, false, false, false, false, false, false, false, false, false, false, false, false] rfl rfl (by kernel_rfl) (fun _ _ _ h => h) (Or.inl ⟨by rfl, ?_⟩) ?_ ?_
      rotate_left
      · intro w'
        go_simp
        with_reducible rfl
      rotate_left
      · simp only [Act.put, List.setIfInBounds_toArray, List.set_cons_zero, List.set_cons_succ, i64_w, i32_w]
        rfl
      refine take_ (i := 1) (N := (some 21)) (v := .agg lv.toList.toArray) (a' := ?_) #[true, true, false, false, false, false, false, false, false, false, false, false, false, false, false] rfl rfl (by kernel_rfl) (fun _ _ _ h => h) (by exact yieldsIf_load_mid rfl 29 _ rfl base 0 rfl lv.toList _ (fun w' s0 => row_range s0.1 0 _ (fun j v h => by rw [Nat.zero_add]; simpa using h)) Tryz.underlying29 rfl HLS.out) hHeld ?_ ?_
      rotate_left
      · simp only [Act.put, List.setIfInBounds_toArray, List.set_cons_zero, List.set_cons_succ, i64_w, i32_w]
        rfl
      refine pure_ (i := 2) (N := (some 22)) (v := ?_) (a' := ?_) #[true, true, true, false, false, false, false, false, false, false, false, false, false, false, false] rfl rfl (by kernel_rfl) (fun _ _ _ h => h) (Or.inl ⟨by rfl, ?_⟩) ?_ ?_
      rotate_left
      · intro w'
        go_simp
        with_reducible rfl
      rotate_left
      · simp only [Act.put, List.setIfInBounds_toArray, List.set_cons_zero, List.set_cons_succ, i64_w, i32_w]
        rfl
      refine take_ (i := 3) (N := (some 23)) (v := .agg lv.toList.toArray) (a' := ?_) #[true, true, true, true, false, false, false, false, false, false, false, false, false, false, false] rfl rfl (by kernel_rfl) (fun _ _ _ h => h) (by exact yieldsIf_load_mid rfl 29 _ rfl base 0 rfl lv.toList _ (fun w' s0 => row_range s0.1 0 _ (fun j v h => by rw [Nat.zero_add]; simpa using h)) Tryz.underlying29 rfl HLS.out) hHeld ?_ ?_
      rotate_left
      · simp only [Act.put, List.setIfInBounds_toArray, List.set_cons_zero, List.set_cons_succ, i64_w, i32_w]
        rfl
      refine pure_ (i := 5) (N := (some 25)) (v := ?_) (a' := ?_) #[true, true, true, true, false, true, false, false, false, false, false, false, false, false, false] rfl rfl (by kernel_rfl) (fun _ _ _ h => h) (Or.inl ⟨by rfl, ?_⟩) ?_ ?_
      rotate_left
      · intro w'
        go_simp
        with_reducible rfl
      rotate_left
      · simp only [Act.put, List.setIfInBounds_toArray, List.set_cons_zero, List.set_cons_succ, i64_w, i32_w]
        rfl
      refine pure_ (i := 6) (N := (some 26)) (v := ?_) (a' := ?_) #[true, true, true, true, false, true, true, false, false, false, false, false, false, false, false] rfl rfl (by kernel_rfl) (fun _ _ _ h => h) (Or.inl ⟨by rfl, ?_⟩) ?_ ?_
      rotate_left
      · intro w'
        go_simp
        with_reducible rfl
      rotate_left
      · simp only [Act.put, List.setIfInBounds_toArray, List.set_cons_zero, List.set_cons_succ, i64_w, i32_w]
        rfl
      refine pure_ (i := 7) (N := (some 27)) (v := ?_) (a' := ?_) #[true, true, true, true, false, true, true, true, false, false, false, false, false, false, false] rfl rfl (by kernel_rfl) (fun _ _ _ h => h) (Or.inl ⟨by rfl, ?_⟩) ?_ ?_
      rotate_left
      · intro w'
        go_simp
        with_reducible rfl
      rotate_left
      · simp only [Act.put, List.setIfInBounds_toArray, List.set_cons_zero, List.set_cons_succ, i64_w, i32_w]
        rfl
      refine take_ (i := 8) (N := (some 28)) (v := ?_) (a' := ?_) #[true, true, true, true, false, true, true, true, true, false, false, false, false, false, false] rfl rfl (by kernel_rfl) (fun _ _ _ h => h) (Or.inl ⟨by rfl, ?_⟩) hHeld ?_ ?_
      rotate_left
      · rintro w' ⟨s0, s1⟩
        go_simp
        with_reducible rfl
      rotate_left
      · simp only [Act.put, List.setIfInBounds_toArray, List.set_cons_zero, List.set_cons_succ, i64_w, i32_w]
        rfl
      refine one_ (i := 4) (N := (some 24)) #[true, true, true, true, true, true, true, true, true, false, false, false, false, false, false] rfl rfl (by kernel_rfl) (by decide) (fun K hK => ?_)
      refine goes_ Tryz.func15 (by kernel_rfl) rfl #[.agg lv, .int .i64 0] (by rfl) rfl rfl (by first | rfl | (simp [Act.eval]; done) | (go_simp; done)) ?_
      refine (HTB.out wr.drew).mono ?_
      rintro e w2 ⟨rfl, hb⟩
      have b2 : Below wr.heap.size wr w2 := (show Below wr.heap.size wr wr.drew from (Below.refl _ _).drew).trans hb
      have L2 : w2.heap[base]? = some (.cells lv 29 (0, 0)) ∧ w2.cell? ⟨jb, off + k, none⟩ = some sv := ⟨blk_below LR.out.1 b2, by rw [← LR.out.2]; exact b2.cell (by have := JB.out; show jb < _; omega)⟩
      have B2 := Lib.hid b2
      have s2 : Hid (wr.heap.size ≤ w2.heap.size) := b2.size
      clear b2 hb
      refine ⟨_, rfl, ?_⟩
      refine hK.out _ _ L2 (fun hHeld => ?_)
      clear hK K
      refine norm_ (a' := ?_) ?_ ?_
      rotate_left
      · show Act.put _ (some 24) _ = _
        simp only [Act.put, List.setIfInBounds_toArray, List.set_cons_zero, List.set_cons_succ, i64_w, i32_w]
        rfl
      refine one_ (i := 9) (N := (some 29)) #[true, true, true, true, true, true, true, true, true, true, false, false, false, false, false] rfl rfl (by kernel_rfl) (by decide) (fun K hK => ?_)
      refine goes_ Tryz.func14 (by kernel_rfl) rfl #[.int .i64 tb, sv] (by rfl) rfl rfl (by first | rfl | (simp [Act.eval]; done) | (go_simp; done)) ?_
      refine (fit_any HTI.out ((STS.out.below (B2.out.mono (by have := JB.out; omega))).mono (by have := JB.out; have := s2.out; omega)) (getD_sin HJS.out k)).mono ?_
      rintro e w3 ⟨vf, rfl, hf, hb⟩
      obtain ⟨Af, cf, rfl, -⟩ := id hf
      have L3 : w3.heap[base]? = some (.cells lv 29 (0, 0)) ∧ w3.cell? ⟨jb, off + k, none⟩ = some sv := ⟨blk_below L2.1 hb, by rw [← L2.2]; exact hb.cell (by have := JB.out; have := s2.out; show jb < _; omega)⟩
      have I3 := Lib.hid hf
      have B3 : Hid (Below wr.heap.size wr w3) := B2.out.trans (hb.mono s2.out)
      have s3 : Hid (w2.heap.size ≤ w3.heap.size) := hb.size
      clear hb hf
      refine ⟨_, rfl, ?_⟩
      refine hK.out _ _ L3 (fun hHeld => ?_)
      clear hK K
      refine norm_ (a' := ?_) ?_ ?_
      rotate_left
      · show Act.put _ (some 29) _ = _
        simp only [Act.put, List.setIfInBounds_toArray, List.set_cons_zero, List.set_cons_succ, i64_w, i32_w]
        rfl
      refine one_ (i := 10) (N := (some 30)) #[true, true, true, true, true, true, true, true, true, true, true, false, false, false, false] rfl rfl (by kernel_rfl) (by decide) (fun K hK => ?_)
      refine goes_ Tryz.func13 (by kernel_rfl) rfl #[.slice Af (fits tb (js.getD k [])).length cf] (by rfl) rfl rfl (by first | rfl | (simp [Act.eval]; done) | (go_simp; done)) ?_
      refine (prog_made Af _ cf w3).mono ?_
      rintro e w4 ⟨pc, rfl, hpc, hrow, hb⟩
      have L4 : w4.heap[base]? = some (.cells lv 29 (0, 0)) ∧ w4.cell? ⟨jb, off + k, none⟩ = some sv := ⟨blk_below L3.1 hb, by rw [← L3.2]; exact hb.cell (by have := JB.out; have := s2.out; have := s3.out; show jb < _; omega)⟩
      have I4 : Hid (ITold w4 w2.heap.size (fits tb (js.getD k [])) (.slice Af (fits tb (js.getD k [])).length cf)) := I3.out.kept (fun q hq => hb.block q (I3.out.own_lt hq))
      have PR4 := Lib.hid hrow
      have HPC := Lib.hid hpc
      have B4 : Hid (Below wr.heap.size wr w4) := B3.out.trans (hb.mono (by have := s2.out; have := s3.out; omega))
      have s4 : Hid (w3.heap.size ≤ w4.heap.size) := hb.size
      clear hb hrow hpc I3
      refine ⟨_, rfl, ?_⟩
      refine hK.out _ _ L4 (fun hHeld => ?_)
      clear hK K
      refine norm_ (a' := ?_) ?_ ?_
      rotate_left
      · show Act.put _ (some 30) _ = _
        simp only [Act.put, List.setIfInBounds_toArray, List.set_cons_zero, List.set_cons_succ, i64_w, i32_w]
        rfl
      refine one_ (i := 11) (N := (some 31)) #[true, true, true, true, true, true, true, true, true, true, true, true, false, false, false] rfl rfl (by kernel_rfl) (by decide) (fun K hK => ?_)
      refine goes_ Tryz.func12 (by kernel_rfl) rfl #[.agg lv, .int .i64 k, progV pc] (by rfl) rfl rfl (by first | rfl | (simp [Act.eval]; done) | (go_simp; done)) ?_
      refine (HMD.out k pc w4).mono ?_
      rintro e w5 ⟨b, rfl, hbl, hbs, hR, hb⟩
      have L5 : w5.heap[base]? = some (.cells lv 29 (0, 0)) ∧ w5.cell? ⟨jb, off + k, none⟩ = some sv := ⟨blk_below L4.1 hb, by rw [← L4.2]; exact hb.cell (by have := JB.out; have := s2.out; have := s3.out; have := s4.out; show jb < _; omega)⟩
      have RW5' : Hid (Row w5 b (newV (small c0) (places (small c0)) (progV pc)) (newT k)) := hR
      have RN5 : Hid (Runs w5 (fun q => q = pc ∨ (Value.slice Af (fits tb (js.getD k [])).length cf).ownBlock = some q) (progV pc) (runOf (fits tb (js.getD k [])))) := runs_prog HTI.out (blk_below PR4.out hb) (I4.out.kept (fun q hq => hb.block q (I4.out.own_lt hq))) (getD_sin HJS.out k)
      have S05 : Hid (∀ q, (q = pc ∨ (Value.slice Af (fits tb (js.getD k [])).length cf).ownBlock = some q) → wr.heap.size ≤ q ∧ q < w5.heap.size ∧ q ≠ b) := fun q hq => by
        have := s2.out; have := s3.out; have := s4.out; have := HPC.out; have := hb.size; have := (Array.getElem?_eq_some_iff.1 PR4.out).1
        rcases hq with rfl | hq
        · omega
        · have := I4.out.own_lt hq; have := I4.out.block hq; omega
      have B5 : Hid (Below wr.heap.size wr w5) := B4.out.trans (hb.mono (by have := s2.out; have := s3.out; have := s4.out; omega))
      have HBN : Hid (wr.heap.size ≤ b) := by have := s2.out; have := s3.out; have := s4.out; rw [Hid]; omega
      have s5 : Hid (w4.heap.size ≤ w5.heap.size) := hb.size
      clear hb hR I4 PR4 HPC
      refine ⟨_, rfl, ?_⟩
      refine hK.out _ _ L5 (fun hHeld => ?_)
      clear hK K
      refine norm_ (a' := ?_) ?_ ?_
      rotate_left
      · show Act.put _ (some 31) _ = _
        simp only [Act.put, List.setIfInBounds_toArray, List.set_cons_zero, List.set_cons_succ, i64_w, i32_w]
        rfl
      refine one_ (i := 12) (N := (some 32)) #[true, true, true, true, true, true, true, true, true, true, true, true, true, false, false] rfl rfl (by kernel_rfl) (by decide) (fun K hK => ?_)
      refine value_ (by rfl) rfl (v := .slice (some ⟨w5.heap.size, 0, none⟩) 1 1) (w1 := w5.alloc (.cells #[.pointer (some ⟨b, 0, none⟩)] 36)) ?_ ?_
      · simp only [execOp, Sem.run_bind]
        have := run_ptr1 w5 b
        unfold ptr at this
        simp [Act.eval, this, Result.andThen_ok]
      obtain ⟨w6, hw6⟩ : ∃ w6, w5.alloc (.cells #[.pointer (some ⟨b, 0, none⟩)] 36) = w6 := ⟨_, rfl⟩
      obtain ⟨p, hp⟩ : ∃ p, w5.heap.size = p := ⟨_, rfl⟩
      have b56 : Below w5.heap.size w5 w6 := by rw [← hw6]; exact (Below.refl _ w5).alloc (Nat.le_refl _) _
      have n6 : w6.heap[p]? = some (.cells #[ptr b] 36 (0, 0)) := by rw [← hw6, ← hp]; exact new_row w5 _ _
      rw [hw6, hp]
      have L6 : w6.heap[base]? = some (.cells lv 29 (0, 0)) ∧ w6.cell? ⟨jb, off + k, none⟩ = some sv := ⟨blk_below L5.1 b56, by rw [← L5.2]; exact b56.cell (by have := JB.out; have := s2.out; have := s3.out; have := s4.out; have := s5.out; show jb < _; omega)⟩
      have P6 : PT w6 base ((List.range k).map bs) (.slice A9 k c9) := HL1.out.pt.kept fun q hq => (b56.block q (by have := HL1.out.pt.own_lt hq; have := B5.out.size; omega)).trans (B5.out.block q (HL1.out.pt.own_lt hq))
      have B56 := Lib.hid b56
      refine hK.out _ _ L6 (fun hHeld => ?_)
      clear hK K
      refine norm_ (a' := ?_) ?_ ?_
      rotate_left
      · show Act.put _ (some 32) _ = _
        simp only [Act.put, List.setIfInBounds_toArray, List.set_cons_zero, List.set_cons_succ, i64_w, i32_w]
        rfl
      obtain ⟨v7, w7, hr7, H7, g7, o7⟩ := append_ptr P6 (by simp; have := HN4.out; omega) (by have := b56.size; have := B5.out.size; have := HBW.out; omega) n6
      have H7' := Lib.hid H7; have G7 := Lib.hid g7; have O7 := Lib.hid o7
      have L7 : w7.heap[base]? = some (.cells lv 29 (0, 0)) ∧ w7.cell? ⟨jb, off + k, none⟩ = some sv := ⟨(g7.block base (Array.getElem?_eq_some_iff.1 L6.1).1 (fun e => HLV.out base e.symm rfl)).trans L6.1, by rw [← L6.2]; exact World.cell?_of_block (g7.block jb (World.block_lt_of_cell? _ _ L6.2) (fun e => by have := HL1.out.pt.block e.symm; have := JB.out; omega))⟩
      refine one_ (i := 13) (N := (some 33)) #[true, true, true, true, true, true, true, true, true, true, true, true, true, true, false] rfl rfl (by kernel_rfl) (by decide) (fun K hK => ?_)
      refine value_ (by rfl) rfl (v := v7) (w1 := w7) ?_ ?_
      · simp only [execOp, resolve, invoke, builtin, Sem.run_bind, Sem.run_pure, Result.andThen_ok, List.map_toArray, List.map_cons, List.map_nil]
        simp [Act.eval, hr7, Result.andThen_ok]
      refine hK.out _ _ L7 (fun hHeld => ?_)
      clear hK K
      refine norm_ (a' := ?_) ?_ ?_
      rotate_left
      · show Act.put _ (some 33) _ = _
        simp only [Act.put, List.setIfInBounds_toArray, List.set_cons_zero, List.set_cons_succ, i64_w, i32_w]
        rfl
      refine pure_ (i := 14) (N := (some 9)) (v := ?_) (a' := ?_) #[true, true, true, true, true, true, true, true, true, true, true, true, true, true, true] rfl rfl (by kernel_rfl) (fun _ _ _ h => h) (Or.inl ⟨by rfl, ?_⟩) ?_ ?_
      rotate_left
      · intro w'
        go_simp
        with_reducible rfl
      rotate_left
      · simp only [Act.put, List.setIfInBounds_toArray, List.set_cons_zero, List.set_cons_succ, i64_w, i32_w]
        rfl
      refine done_ (by kernel_rfl) ?_
      have NX := L1.next (S0 := fun q => q = pc ∨ (Value.slice Af (fits tb (js.getD k [])).length cf).ownBlock = some q) HL1.out HLV.out B5.out RW5'.out HBN.out (show Runs w5 _ _ (rnOf c0 js k) by unfold rnOf; rw [HTBV.out]; exact RN5.out) S05.out B56.out H7'.out G7.out O7.out
      obtain ⟨bs', S', K', NX1, NX2⟩ := NX
      have NX1 := Lib.hid NX1; have NX2 := Lib.hid NX2
      go_wp2
      go_roundw
      case rel => exact ⟨k + 1, bs', S', K', by omega, by go_num, NX1, NX2⟩
      case measure => simp [intOf]; omega
    · obtain rfl : n = k := by omega
      have l1 := HL1.out
      rw [← HNN.out] at l1
      have l2 : L2 Q w0 wr base S K a g c0 js bs u9 B0 (.slice A3 ss.length cp3) ss (fun i => newT i) 1000 := l1.two HBS.out (by rw [HNN.out]; omega) HLEN.out HWB.out HQ0.out HC.out HS.out HB.out
      obtain ⟨p, cap, e9, -⟩ := l2.cell (i := 0) (by rw [HNN.out]; omega)
      rw [HNN.out] at e9
      subst e9
      have L20 := Lib.hid l2
      clear l1 l2 HL1 HLV HTB HMD HLS HLVE HTBV HTI
      have MU0 : Hid (∀ j, j < n → muG c0 ((fun i : Nat => newT i) j) ≤ 285) := fun j _ => muG_new c0 _
      go_upto_region 7 with fail
      go_loopw [11] (fun u11 wr => ∃ (q : Nat) (T : Nat → AT), q ≤ sn ∧ u11 = .int .i64 q ∧ Hid (L2 Q w0 wr base S K a g c0 js bs (.slice (some ⟨p, 0, none⟩) n cap) B0 (.slice A3 ss.length cp3) ss T (1000 + q)) ∧ Hid (∀ j, j < n → muG c0 (T j) ≤ 285)) (fun u11 _ => sn - (intOf u11).toNat)
      case atStart => exact ⟨0, _, by omega, rfl, L20, MU0⟩
      case round =>
        clear L20 MU0
        obtain ⟨q, T, hq, rfl, HL2, HMU⟩ := hrel
        by_cases hlt2 : q < sn
        · have hql : q < ss.length := by rw [HSN.out]; exact hlt2
          obtain ⟨sb, so, rfl, hsb, hsc⟩ := View.word_row HL2.out.wd hql
          obtain ⟨x, hx⟩ : ∃ x, ss[q] = x := ⟨_, rfl⟩
          rw [hx] at hsc
          obtain ⟨u, hu⟩ : ∃ u, IntKind.u64.wrap x = u := ⟨_, rfl⟩
          have u0 : 0 ≤ u := by rw [← hu, IntKind.wrap_u64]; omega
          have un : IntKind.u64.wrap (n : Int) = n := by rw [IntKind.wrap_u64]; omega
          have hm0 : 0 ≤ u % (n : Int) ∧ u % (n : Int) < n := ⟨Int.emod_nonneg _ (by omega), Int.emod_lt_of_pos _ (by omega)⟩
          obtain ⟨i, hi⟩ : ∃ i : Nat, u % (n : Int) = i := ⟨(u % (n : Int)).toNat, by omega⟩
          have hin : i < n := by omega
          have tm : u.tmod n = i := by rw [Int.tmod_eq_emod_of_nonneg u0]; exact hi
          have hc1 := HL2.out.cell1 (i := i) (by rw [HNN.out]; exact hin)
          have nz : ((n : Int) == 0) = false := by rw [beq_eq_false_iff_ne]; omega
          have ST := Lib.hid (HL2.out.step HJS.out HQ.out (i := i) (by rw [HNN.out]; exact hin) (by omega))
          clear hx hql hsb hm0 hi
          go_wp2_with (first
            | (go_at_call 16; refine ST.out.mono ?_; rintro e w2 ⟨T2, rfl, hL, hM, hO⟩
               have NL : Hid (L2 Q w0 w2 base S K a g c0 js bs (.slice (some ⟨p, 0, none⟩) n cap) B0 (.slice (some ⟨sb, so, none⟩) ss.length cp3) ss T2 (1000 + (q + 1))) := hL
               have NM : Hid (∀ j, j < n → muG c0 (T2 j) ≤ 285) := fun j hj => by
                 by_cases e : j = i
                 · subst e
                   have := HMU.out j hj
                   rcases hM with ⟨_, e2⟩ | ⟨_, e2⟩
                   · rw [e2]; exact this
                   · omega
                 · rw [hO j e]; exact HMU.out j hj
               clear hL hM hO ST HL2 HMU))
          go_roundw
          case rel => exact ⟨q + 1, T2, by omega, by go_num, NL, NM⟩
          case measure => simp [intOf]; omega
        · obtain rfl : sn = q := by omega
          have L30 : Hid (L2 Q w0 wr base S K a g c0 js bs (.slice (some ⟨p, 0, none⟩) n cap) B0 (.slice A3 ss.length cp3) ss T 2000) := HL2.out.more (by omega)
          clear HL2
          go_upto_region 11 with fail
          have OV0 : Hid (∀ j : Nat, j < 0 → (T j).phase = 10) := fun j hj => absurd hj (by omega)
          go_loopw [12, 13] (fun u12 u13 wr => ∃ (i : Nat) (T : Nat → AT), i ≤ n ∧ u12 = .int .i64 i ∧ Hid (L2 Q w0 wr base S K a g c0 js bs (.slice (some ⟨p, 0, none⟩) n cap) B0 (.slice A3 ss.length cp3) ss T (2000 + 400 * i)) ∧ Hid (∀ j, j < n → muG c0 (T j) ≤ 285) ∧ Hid (∀ j, j < i → (T j).phase = 10)) (fun u12 _ _ => n - (intOf u12).toNat)
          case atStart => exact ⟨0, T, by omega, rfl, L30, HMU, OV0⟩
          case round =>
            clear L30 HMU OV0 T
            obtain ⟨i, T, hi, rfl, HL2, HMU, HOV⟩ := hrel
            by_cases hlt3 : i < n
            · go_upto_region 14 with fail
              have MUI : Hid ((0 : Int) + muG c0 (T i) ≤ 285) := by have := HMU.out i hlt3; rw [Hid]; omega
              go_loopw [13] (fun u13 wr => ∃ (q : Nat) (T : Nat → AT), u13 = .int .i64 q ∧ Hid (L2 Q w0 wr base S K a g c0 js bs (.slice (some ⟨p, 0, none⟩) n cap) B0 (.slice A3 ss.length cp3) ss T (2000 + 400 * i + q)) ∧ Hid (∀ j, j < n → muG c0 (T j) ≤ 285) ∧ Hid (∀ j, j < i → (T j).phase = 10) ∧ Hid ((q : Int) + muG c0 (T i) ≤ 285)) (fun u13 _ => 400 - (intOf u13).toNat)
              case atStart => exact ⟨0, T, rfl, HL2, HMU, HOV, MUI⟩
              case round =>
                clear HL2 HMU HOV MUI T
                obtain ⟨q, T, rfl, HL2, HMU, HOV, HMI⟩ := hrel
                have hij : i < js.length := by rw [HNN.out]; exact hlt3
                have m0 := HL2.out.mu0 hij
                have hq285 : q ≤ 285 := by have := HMI.out; omega
                have hc1 := HL2.out.cell1 (i := i) hij
                have ST := Lib.hid (HL2.out.step HJS.out HQ.out (i := i) hij (by omega))
                have HIJ := Lib.hid hij
                clear m0 hij
                go_upto_region 12 with (first
                  | (go_at_call 16; refine ST.out.mono ?_; rintro e w2 ⟨T2, rfl, hL, hM, hO⟩
                     have alt := hL.qw.told HIJ.out
                     have NL := Lib.hid hL
                     have NM : Hid (∀ j, j < n → muG c0 (T2 j) ≤ 285) := fun j hj => by
                       by_cases e : j = i
                       · subst e
                         have := HMU.out j hj
                         rcases hM with ⟨_, e2⟩ | ⟨_, e2⟩
                         · rw [e2]; exact this
                         · omega
                       · rw [hO j e]; exact HMU.out j hj
                     have NO : Hid (∀ j, j < i → (T2 j).phase = 10) := fun j hj => by rw [hO j (by omega)]; exact HOV.out j hj
                     have NI : Hid ((T2 i).phase ≠ 10 → ((q + 1 : Nat) : Int) + muG c0 (T2 i) ≤ 285) := fun h10 => by
                       have := HMI.out
                       rcases hM with ⟨e1, e2⟩ | ⟨_, e2⟩
                       · rw [e2] at h10; exact absurd e1 h10
                       · omega
                     clear hL hM hO ST HL2 HMU HOV HMI
                     rcases alt with ⟨h10, ht⟩ | ⟨h10, ht | ht | ht⟩ <;> rw [ht]))
                · refine ⟨⟨q + 1, T2, by go_num, NL, NM, NO, NI.out h10⟩, ?_⟩
                  simp [intOf]; omega
                all_goals (
                  have NL2 : Hid (L2 Q w0 w2 base S K a g c0 js bs (.slice (some ⟨p, 0, none⟩) n cap) B0 (.slice A3 ss.length cp3) ss T2 (2000 + 400 * (i + 1))) := NL.out.more (by omega)
                  have NO2 : Hid (∀ j, j < i + 1 → (T2 j).phase = 10) := fun j hj => by
                    by_cases e : j = i
                    · subst e; exact h10
                    · exact NO.out j (by omega)
                  clear NL NO NI hc1
                  go_wp2
                  refine ⟨⟨i + 1, T2, by omega, by go_num, NL2, NM, NO2⟩, ?_⟩
                  simp [intOf]; omega)
            · obtain rfl : n = i := by omega
              go_wp2
              go_ret
              exact ⟨.slice (some ⟨p, 0, none⟩) n cap, bs, S, K, T, 2000 + 400 * n, rfl, (by have h2 := HL2.out; rw [HSN.out] at h2; exact h2), by omega, fun j hj => HOV.out j hj⟩
end Att
end Go.Proofs.YthojgahcpkdemaaGreat
