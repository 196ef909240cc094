/- Lemmas of this seat's proofs, several texts laid together. -/
import Derived.Test.YthojgahcpkdemaaGreatAfF
import Derived.Test.YthojgahcpkdemaaGreatAfG
import Derived.Test.YthojgahcpkdemaaGreatAfC
import Derived.Test.YthojgahcpkdemaaGreatAfD
set_option linter.unusedVariables false
set_option linter.unusedSimpArgs false
/- an attempt makes a step -/
namespace Go.Proofs.YthojgahcpkdemaaGreat
open Go.RowKit Go.Bas View VIn IMap_
open Go.ChangeShapes
namespace Att

/-- what a step leaves, and tells -/
def StepsOut (w : World) (b base a g : Nat) (X : AV) (T' : AT) (W' : List Int) (c' : Int) (e : Ending) (w' : World) : Prop :=
  e = .returned (.int .i64 (told T')) ∧ (∃ X', IsAtt w' b base X' T' ∧ (∀ k, OwnB X' k → OwnB X k ∨ w.heap.size ≤ k) ∧ X'.c = X.c ∧ X'.a = X.a ∧ X'.prog = X.prog) ∧ Ar w' a g W' c' ∧ Chg (fun k => OwnB X k ∨ k = b ∨ k = a ∨ k = g) w w'

set_option maxRecDepth 100000 in
set_option maxHeartbeats 1000000 in
theorem step_walk {w : World} {b base : Nat} {X : AV} {T : AT} {a g : Nat} {T' : AT} {W' : List Int} {c' : Int} {f : FuncId} (hf : ∀ args w, (callFunc f args).run Tryz.prog w = .ok (.enter f args) w) (I : IsAtt w b base X T) (hp : T.phase ≠ 10)
    (DO : Calls Tryz.prog 48 #[.pointer (some ⟨b, 0, none⟩)] w fun e w' => e = .returned (.func (.func f) #[.pointer (some ⟨b, 0, none⟩)] #[]) ∧ Below w.heap.size w w')
    (ST : ∀ w1, Below w.heap.size w w1 → Calls Tryz.prog f #[.pointer (some ⟨b, 0, none⟩), .pointer (some ⟨a, 0, none⟩)] w1 (StepOut w1 b base a g X T' W' c')) :
    Calls Tryz.prog 16 #[.pointer (some ⟨b, 0, none⟩), .pointer (some ⟨a, 0, none⟩)] w (StepsOut w b base a g X T' W' c') := by
  have g1 := I.row.get
  have HI := Lib.hid I
  have DH := Lib.hid DO
  have SH := Lib.hid ST
  have p1 : (T.phase == 10) = false := by rw [beq_eq_false_iff_ne]; exact hp
  clear I DO ST hp
  go_enter Tryz.func16, Tryz.ntmps16
  go_wp2_with (first
    | (go_at_call 48; refine DH.out.mono ?_; rintro e w2 ⟨rfl, hb2⟩; have B2 := Lib.hid hb2; clear hb2)
    | ((with_reducible refine (SH.out _ B2.out).mono ?_)
       rintro e w3 ⟨rfl, ⟨X', i3, o3, e1, e2, e3⟩, a3, c3⟩
       have q1 := i3.row.get
       have FIN : Hid (∀ v, v = .int .i64 (told T') → StepsOut w b base a g X T' W' c' (.returned v) w3) := fun v hv => by
         have hs := B2.out.size
         refine ⟨by rw [hv], ⟨X', i3, fun k hk => ?_, e1, e2, e3⟩, a3, ?_⟩
         · rcases o3 k hk with h | h
           · exact .inl h
           · exact .inr (by omega)
         · have h := ((Chg.of_below B2.out).mono (T := fun k => w.heap.size ≤ k ∨ OwnB X k ∨ k = b ∨ k = a ∨ k = g) (fun _ _ h => .inl h)).trans (c3.mono (fun _ _ h => .inr h))
           exact h.mono (fun k h1 h2 => h2.elim (fun h => by omega) id)
       have TT : Hid ((T'.phase = 10 → told T' = T'.how) ∧ (T'.phase ≠ 10 → told T' = 0)) := ⟨fun h => by unfold told; rw [if_pos h], fun h => by unfold told; rw [if_neg h]⟩
       clear i3 o3 e1 e2 e3 a3 c3))
  · rename_i heq
    go_ret
    exact FIN.out _ (by rw [TT.out.1 (by simpa using heq)]; rfl)
  · rename_i hne
    go_ret
    exact FIN.out _ (by rw [TT.out.2 (by simpa using hne)]; rfl)

/-- where a step makes its access -/
def acc (E : Env) (T : AT) : Int :=
  if T.phase = 0 then 1 else if T.phase = 1 then lock E T.na else if T.phase = 2 then T.na else if T.phase = 3 then lock E T.na
  else if T.phase = 4 then T.locks.getD T.holds.length 0 else if T.phase = 5 then T.locks.getD T.holds.length 0 else if T.phase = 6 then 1
  else if T.phase = 7 then T.checks.getD T.at_.toNat 0 else if T.phase = 8 then (T.writes.getD T.at_.toNat (0, 0)).1 else (T.holds.getD T.at_.toNat (0, 0)).1

/-- what is small enough -/
structure Fit (T : AT) : Prop where
  ph : 0 ≤ T.phase ∧ T.phase ≤ 10
  na : In64 T.na
  nv : In64 T.nv
  seen : 0 ≤ T.seen ∧ T.seen ≤ 9223372036854775807
  pin : PIn T.reads
  rl : T.reads.length ≤ 900
  hl : T.holds.length ≤ 10000
  ll : T.locks.length ≤ 10000
  at_ : 0 ≤ T.at_ ∧ T.at_ ≤ 1000000
  part : T.phase = 4 ∨ T.phase = 5 → T.holds.length < T.locks.length
  bump : T.phase = 6 → T.reads ≠ [] ∧ 0 < T.locks.length
  chk : T.phase = 7 → T.at_ < T.checks.length
  sto : T.phase = 8 → T.at_ < T.writes.length
  rel : T.phase = 9 → T.at_ < T.holds.length

theorem IsAtt.same3 {w w' : World} {b base a g : Nat} {X : AV} {T T' : AT} (h : IsAtt w b base X T) (hoa : ∀ k, OwnB X k → k ≠ a ∧ k ≠ g) (hr : Row w' b X T') (hc : Chg (fun k => k = b ∨ k = a ∨ k = g) w w') (e1 : T'.reads = T.reads) (e2 : T'.writes = T.writes) (e3 : T'.locks = T.locks) (e4 : T'.holds = T.holds) (e5 : T'.checks = T.checks) : IsAtt w' b base X T' := by
  have hk : ∀ j, OwnB X j → w'.heap[j]? = w.heap[j]? := fun j hj => hc.block j (h.own_lt hj).2 (fun hh => by have := h.nb j hj; have := hoa j hj; omega)
  refine ⟨hr, ?_, ?_, ?_, ?_, ?_, h.apr, h.aph, h.nb⟩
  · rw [e1]; exact h.vr.kept fun j e => hk j (.inl e)
  · rw [e2]; exact h.vw.kept fun j e => hk j (.inr (.inl e))
  · rw [e3]; exact h.vl.kept fun j e => hk j (.inr (.inr (.inl e)))
  · rw [e4]; exact h.vh.kept fun j e => hk j (.inr (.inr (.inr (.inl e))))
  · rw [e5]; exact h.vc.kept fun j e => hk j (.inr (.inr (.inr (.inr e))))
theorem stepOut_same {w w' : World} {b base a g : Nat} {X : AV} {T T' : AT} {W' : List Int} {c' : Int} {e : Ending} (I : IsAtt w b base X T) (hoa : ∀ k, OwnB X k → k ≠ a ∧ k ≠ g)
    (h : e = .returned (.tuple #[]) ∧ Row w' b X T' ∧ Ar w' a g W' c' ∧ Chg (fun k => k = b ∨ k = a ∨ k = g) w w') (e1 : T'.reads = T.reads) (e2 : T'.writes = T.writes) (e3 : T'.locks = T.locks) (e4 : T'.holds = T.holds) (e5 : T'.checks = T.checks) :
    StepOut w b base a g X T' W' c' e w' :=
  ⟨h.1, ⟨X, I.same3 hoa h.2.1 h.2.2.2 e1 e2 e3 e4 e5, fun k hk => .inl hk, rfl, rfl, rfl⟩, h.2.2.1, h.2.2.2.mono (fun _ _ h => .inr h)⟩
theorem giveUp_lists (T : AT) (how : Int) : (giveUp T how).reads = T.reads ∧ (giveUp T how).writes = T.writes ∧ (giveUp T how).locks = T.locks ∧ (giveUp T how).holds = T.holds ∧ (giveUp T how).checks = T.checks := by
  unfold giveUp; split <;> exact ⟨rfl, rfl, rfl, rfl, rfl⟩

end Att
end Go.Proofs.YthojgahcpkdemaaGreat

/- an attempt makes a step: all phases -/
namespace Go.Proofs.YthojgahcpkdemaaGreat
open Go.RowKit Go.Bas View VIn IMap_
open Go.ChangeShapes
namespace Att

theorem tw_pick {w : World} {base : Nat} {l : List Int} {v : Value} (h : TW w base l v) {i : Nat} (hi : i < l.length) : ∃ g cap, v = .slice (some ⟨g, 0, none⟩) l.length cap ∧ v.ownBlock = some g ∧ w.cell? ⟨g, i, none⟩ = some (.int .i64 (l.getD i 0)) := by
  obtain ⟨A, cap, rfl⟩ := tw_slice h
  obtain ⟨g, rfl, -, -, -⟩ := h.shape (by omega)
  exact ⟨g, cap, rfl, rfl, h.cell hi⟩
theorem sees_lists (E : Env) (T : AT) (W : List Int) : (sees E T W).reads = T.reads ∧ (sees E T W).writes = T.writes ∧ (sees E T W).locks = T.locks ∧ (sees E T W).holds = T.holds ∧ (sees E T W).checks = T.checks := by
  unfold sees; simp only; split <;> exact ⟨rfl, rfl, rfl, rfl, rfl⟩
theorem locked_lists (E : Env) (T : AT) (W : List Int) : (locked E T W).reads = T.reads ∧ (locked E T W).writes = T.writes ∧ (locked E T W).locks = T.locks ∧ (locked E T W).holds = T.holds ∧ (locked E T W).checks = T.checks := by
  unfold locked; simp only; split <;> exact ⟨rfl, rfl, rfl, rfl, rfl⟩
theorem looks_lists (T : AT) (W : List Int) : (looks T W).reads = T.reads ∧ (looks T W).writes = T.writes ∧ (looks T W).locks = T.locks ∧ (looks T W).holds = T.holds ∧ (looks T W).checks = T.checks := by
  unfold looks; simp only; split
  · exact ⟨rfl, rfl, rfl, rfl, rfl⟩
  · exact giveUp_lists _ _
theorem verifies_lists (T : AT) (W : List Int) : (verifies T W).reads = T.reads ∧ (verifies T W).writes = T.writes ∧ (verifies T W).locks = T.locks ∧ (verifies T W).holds = T.holds ∧ (verifies T W).checks = T.checks := by
  unfold verifies; simp only; split
  · split <;> exact ⟨rfl, rfl, rfl, rfl, rfl⟩
  · exact giveUp_lists _ _
theorem stores_lists (T : AT) (W : List Int) : (stores T W).1.reads = T.reads ∧ (stores T W).1.writes = T.writes ∧ (stores T W).1.locks = T.locks ∧ (stores T W).1.holds = T.holds ∧ (stores T W).1.checks = T.checks := by
  unfold stores; simp only; split <;> exact ⟨rfl, rfl, rfl, rfl, rfl⟩
theorem releases_lists (T : AT) (W : List Int) : (releases T W).1.reads = T.reads ∧ (releases T W).1.writes = T.writes ∧ (releases T W).1.locks = T.locks ∧ (releases T W).1.holds = T.holds ∧ (releases T W).1.checks = T.checks := by
  unfold releases; simp only; split <;> exact ⟨rfl, rfl, rfl, rfl, rfl⟩
theorem grabs_lists (T : AT) (W : List Int) : (grabs T W).1.reads = T.reads ∧ (grabs T W).1.writes = T.writes ∧ (grabs T W).1.locks = T.locks ∧ (grabs T W).1.checks = T.checks := by
  unfold grabs; simp only; split
  · exact ⟨rfl, rfl, rfl, rfl⟩
  · split
    · exact ⟨rfl, rfl, rfl, rfl⟩
    · have := giveUp_lists T 2; exact ⟨this.1, this.2.1, this.2.2.1, this.2.2.2.2⟩
theorem bumps_lists (E : Env) (T : AT) (W : List Int) : (bumps E T W).1.reads = T.reads ∧ (bumps E T W).1.writes = T.writes ∧ (bumps E T W).1.locks = T.locks ∧ (bumps E T W).1.holds = T.holds := by
  unfold bumps; simp only; split
  · have := giveUp_lists { T with stamp := bumpV W 1 E.clock } 3; exact ⟨this.1, this.2.1, this.2.2.1, this.2.2.2.1⟩
  · exact ⟨rfl, rfl, rfl, rfl⟩

set_option maxHeartbeats 2000000 in
theorem stepA_any {w : World} {b base : Nat} {X : AV} {T : AT} {a g : Nat} {W : List Int} {c : Int} (I : IsAtt w b base X T) (hA : Ar w a g W c) (hc : 0 ≤ c ∧ c < 4611686018427387904) (hne : b ≠ a ∧ b ≠ g) (hoa : ∀ k, OwnB X k → k ≠ a ∧ k ≠ g) (hbase : base ≤ w.heap.size)
    {run : M → Int × M} (fine : 1 ≤ X.c.stripes ∧ X.c.stripes ≤ 1048576) (hclk : X.c.clock ≤ 9223372036854775807) {S : Nat → Prop} (hS : ∀ k, S k → k < w.heap.size ∧ ¬ OwnB X k ∧ k ≠ b ∧ k ≠ a ∧ k ≠ g) (hrun : Runs w S X.prog run) (hml : ∀ l, (run l).2.length ≤ 10000)
    (hW : ∀ k, In64 (ld W k)) (F : Fit T) (hp : T.phase ≠ 10) :
    Calls Tryz.prog 16 #[.pointer (some ⟨b, 0, none⟩), .pointer (some ⟨a, 0, none⟩)] w (StepsOut w b base a g X (step (env X.c X.a run) T W).1 (step (env X.c X.a run) T W).2 (c + cnt W (acc (env X.c X.a run) T))) := by
  have K : ∀ w1, Below w.heap.size w w1 → IsAtt w1 b base X T ∧ Ar w1 a g W c ∧ base ≤ w1.heap.size ∧ Runs w1 S X.prog run ∧ (∀ k, S k → k < w1.heap.size ∧ ¬ OwnB X k ∧ k ≠ b ∧ k ≠ a ∧ k ≠ g) := fun w1 hb => by
    have hs := hb.size
    refine ⟨I.keep (hb.block b I.row.lt) (fun k hk => hb.block k (I.own_lt hk).2), hA.below hb, by omega, hrun.keep (fun k hk => hb.block k (hS k hk).1), fun k hk => ?_⟩
    have h := hS k hk
    exact ⟨by have := h.1; omega, h.2⟩
  obtain ⟨Ah, ch, hv⟩ := I.vh.slice
  have hph := F.ph
  have stp : ∀ (i : Int) (x : AT × List Int), T.phase = i → step (env X.c X.a run) T W = x → ∀ y, acc (env X.c X.a run) T = y → ∀ {f : FuncId}, (∀ args w, (callFunc f args).run Tryz.prog w = .ok (.enter f args) w) →
      (Calls Tryz.prog 48 #[.pointer (some ⟨b, 0, none⟩)] w fun e w' => e = .returned (.func (.func f) #[.pointer (some ⟨b, 0, none⟩)] #[]) ∧ Below w.heap.size w w') →
      (∀ w1, Below w.heap.size w w1 → Calls Tryz.prog f #[.pointer (some ⟨b, 0, none⟩), .pointer (some ⟨a, 0, none⟩)] w1 (StepOut w1 b base a g X x.1 x.2 (c + cnt W y))) →
      Calls Tryz.prog 16 #[.pointer (some ⟨b, 0, none⟩), .pointer (some ⟨a, 0, none⟩)] w (StepsOut w b base a g X (step (env X.c X.a run) T W).1 (step (env X.c X.a run) T W).2 (c + cnt W (acc (env X.c X.a run) T))) :=
    fun i x hi hx y hy f hf hd hst => by rw [hx, hy]; exact step_walk hf I hp hd hst
  by_cases h0 : T.phase = 0
  · refine stp 0 ((sees (env X.c X.a run) T W, W)) h0 (by unfold step; rw [if_neg hp, if_pos h0]) (1) (by unfold acc; rw [if_pos h0]) (callFunc_run Tryz.func63 (by kernel_rfl) (by kernel_rfl)) (does_0 I.row h0) (fun w1 hb1 => ?_)
    obtain ⟨i1, a1, b1, r1, s1⟩ := K w1 hb1
    have l := sees_lists (env X.c X.a run) T W
    exact (sees_any i1.row a1 hc hne run).mono fun e w' h => stepOut_same i1 hoa h l.1 l.2.1 l.2.2.1 l.2.2.2.1 l.2.2.2.2
  by_cases h1 : T.phase = 1
  · refine stp 1 ((locked (env X.c X.a run) T W, W)) h1 (by unfold step; rw [if_neg hp, if_neg h0, if_pos h1]) (lock (env X.c X.a run) T.na) (by unfold acc; rw [if_neg h0, if_pos h1]) (callFunc_run Tryz.func64 (by kernel_rfl) (by kernel_rfl)) (does_1 I.row h1) (fun w1 hb1 => ?_)
    obtain ⟨i1, a1, b1, r1, s1⟩ := K w1 hb1
    have l := locked_lists (env X.c X.a run) T W
    exact (locked_any i1.row a1 hc hne run fine F.na.2 F.seen hW hv).mono fun e w' h => stepOut_same i1 hoa h l.1 l.2.1 l.2.2.1 l.2.2.2.1 l.2.2.2.2
  by_cases h2 : T.phase = 2
  · refine stp 2 ((loads T W, W)) h2 (by unfold step; rw [if_neg hp, if_neg h0, if_neg h1, if_pos h2]) (T.na) (by unfold acc; rw [if_neg h0, if_neg h1, if_pos h2]) (callFunc_run Tryz.func65 (by kernel_rfl) (by kernel_rfl)) (does_2 I.row h2) (fun w1 hb1 => ?_)
    obtain ⟨i1, a1, b1, r1, s1⟩ := K w1 hb1
    exact (loads_any i1.row a1 hc hne).mono fun e w' h => stepOut_same i1 hoa h rfl rfl rfl rfl rfl
  by_cases h3 : T.phase = 3
  · refine stp 3 ((confirms (env X.c X.a run) T W, W)) h3 (by unfold step; rw [if_neg hp, if_neg h0, if_neg h1, if_neg h2, if_pos h3]) (lock (env X.c X.a run) T.na) (by unfold acc; rw [if_neg h0, if_neg h1, if_neg h2, if_pos h3]) (callFunc_run Tryz.func66 (by kernel_rfl) (by kernel_rfl)) (does_3 I.row h3) (fun w1 hb1 => ?_)
    obtain ⟨i1, a1, b1, r1, s1⟩ := K w1 hb1
    exact confirms_any i1 a1 hc hne hoa b1 fine s1 r1 F.rl F.pin F.na F.nv hml
  by_cases h4 : T.phase = 4
  · refine stp 4 ((looks T W, W)) h4 (by unfold step; rw [if_neg hp, if_neg h0, if_neg h1, if_neg h2, if_neg h3, if_pos h4]) (T.locks.getD T.holds.length 0) (by unfold acc; rw [if_neg h0, if_neg h1, if_neg h2, if_neg h3, if_pos h4]) (callFunc_run Tryz.func67 (by kernel_rfl) (by kernel_rfl)) (does_4 I.row h4) (fun w1 hb1 => ?_)
    obtain ⟨i1, a1, b1, r1, s1⟩ := K w1 hb1
    have l := looks_lists T W
    obtain ⟨gl, cp, e1, e2, e3⟩ := tw_pick i1.vl (F.part (.inl h4))
    exact (looks_any i1.row a1 hc hne hW hv e1 (F.part (.inl h4)) (hoa gl (.inr (.inr (.inl e2)))) e3).mono fun e w' h => stepOut_same i1 hoa h l.1 l.2.1 l.2.2.1 l.2.2.2.1 l.2.2.2.2
  by_cases h5 : T.phase = 5
  · refine stp 5 (grabs T W) h5 (by unfold step; rw [if_neg hp, if_neg h0, if_neg h1, if_neg h2, if_neg h3, if_neg h4, if_pos h5]) (T.locks.getD T.holds.length 0) (by unfold acc; rw [if_neg h0, if_neg h1, if_neg h2, if_neg h3, if_neg h4, if_pos h5]) (callFunc_run Tryz.func68 (by kernel_rfl) (by kernel_rfl)) (does_5 I.row h5) (fun w1 hb1 => ?_)
    obtain ⟨i1, a1, b1, r1, s1⟩ := K w1 hb1
    have l := grabs_lists T W
    obtain ⟨gl, cp, e1, e2, e3⟩ := tw_pick i1.vl (F.part (.inr h5))
    refine (grabs_any i1.row a1 hc hne i1.vh b1 F.hl (fun k hk => ⟨(hoa k (.inr (.inr (.inr (.inl hk))))).1, (hoa k (.inr (.inr (.inr (.inl hk))))).2, i1.nb k (.inr (.inr (.inr (.inl hk))))⟩) e1 rfl (F.part (.inr h5)) (hoa gl (.inr (.inr (.inl e2)))) e3).mono ?_
    rintro e w' ⟨rfl, ⟨X', hr, hx⟩, ha, hcg⟩
    have key : ∀ j, OwnB X j → X.vh.ownBlock ≠ some j → w'.heap[j]? = w1.heap[j]? := fun j hj hn => hcg.block j (i1.own_lt hj).2 (fun hh => by have h1 := hoa j hj; have h2 := i1.nb j hj; rcases hh with h | h | h | h; exact hn h; omega; omega; omega)
    refine ⟨rfl, ?_, ha, hcg.mono (fun k _ h => by rcases h with h | h; exact .inl (.inr (.inr (.inr (.inl h)))); exact .inr h)⟩
    rcases hx with ⟨rfl, hh, hc3⟩ | ⟨v, rfl, hh, hv2⟩
    · exact ⟨X', i1.same3 hoa hr hc3 l.1 l.2.1 l.2.2.1 hh l.2.2.2, fun k hk => .inl hk, rfl, rfl, rfl⟩
    · have ah := i1.aph
      have ap := i1.apr
      refine ⟨_, ⟨hr, ?_, ?_, ?_, hh, ?_, fun j hj => ?_, fun j hj => ?_, fun j hj => ?_⟩, fun j hj => ?_, rfl, rfl, rfl⟩
      · rw [l.1]; exact i1.vr.kept fun j e => key j (.inl e) (fun h => (ah j h).1 e)
      · rw [l.2.1]; exact i1.vw.kept fun j e => key j (.inr (.inl e)) (fun h => (ah j h).2.1 e)
      · rw [l.2.2.1]; exact i1.vl.kept fun j e => key j (.inr (.inr (.inl e))) (fun h => (ah j h).2.2.1 e)
      · rw [l.2.2.2]; exact i1.vc.kept fun j e => key j (.inr (.inr (.inr (.inr e)))) (fun h => (ah j h).2.2.2 e)
      · have hj : X.vr.ownBlock = some j := hj
        have h := ap j hj
        refine ⟨h.1, h.2.1, fun e => ?_, h.2.2.2⟩
        rcases hv2 j e with h2 | h2
        · exact h.2.2.1 h2
        · have := (i1.own_lt (.inl hj)).2; omega
      · have hj : v.ownBlock = some j := hj
        rcases hv2 j hj with h2 | h2
        · exact ah j h2
        · refine ⟨fun e => ?_, fun e => ?_, fun e => ?_, fun e => ?_⟩
          · have := (i1.own_lt (.inl e)).2; omega
          · have := (i1.own_lt (.inr (.inl e))).2; omega
          · have := (i1.own_lt (.inr (.inr (.inl e)))).2; omega
          · have := (i1.own_lt (.inr (.inr (.inr (.inr e))))).2; omega
      · rcases hj with e | e | e | e | e
        · exact i1.nb j (.inl e)
        · exact i1.nb j (.inr (.inl e))
        · exact i1.nb j (.inr (.inr (.inl e)))
        · rcases hv2 j e with h2 | h2
          · exact i1.nb j (.inr (.inr (.inr (.inl h2))))
          · have := i1.row.lt; omega
        · exact i1.nb j (.inr (.inr (.inr (.inr e))))
      · rcases hj with e | e | e | e | e
        · exact .inl (.inl e)
        · exact .inl (.inr (.inl e))
        · exact .inl (.inr (.inr (.inl e)))
        · rcases hv2 j e with h2 | h2
          · exact .inl (.inr (.inr (.inr (.inl h2))))
          · exact .inr h2
        · exact .inl (.inr (.inr (.inr (.inr e))))
  by_cases h6 : T.phase = 6
  · refine stp 6 (bumps (env X.c X.a run) T W) h6 (by unfold step; rw [if_neg hp, if_neg h0, if_neg h1, if_neg h2, if_neg h3, if_neg h4, if_neg h5, if_pos h6]) (1) (by unfold acc; rw [if_neg h0, if_neg h1, if_neg h2, if_neg h3, if_neg h4, if_neg h5, if_pos h6]) (callFunc_run Tryz.func69 (by kernel_rfl) (by kernel_rfl)) (does_6 I.row h6) (fun w1 hb1 => ?_)
    obtain ⟨i1, a1, b1, r1, s1⟩ := K w1 hb1
    have l := bumps_lists (env X.c X.a run) T W
    obtain ⟨hr0, hL0⟩ := F.bump h6
    refine (bumps_any i1.row a1 hc hne run fine hclk hW hv i1.vr (fun k hk => ⟨(hoa k (.inl hk)).1, (hoa k (.inl hk)).2, i1.nb k (.inl hk)⟩) F.pin (by have := F.rl; omega) hr0 i1.vl F.ll hL0 (fun k hk => ⟨(hoa k (.inr (.inr (.inl hk)))).1, (hoa k (.inr (.inr (.inl hk)))).2, i1.nb k (.inr (.inr (.inl hk)))⟩)).mono ?_
    rintro e w' ⟨rfl, ⟨X', hr, hx⟩, ha, hcg⟩
    refine ⟨rfl, ?_, ha, hcg.mono (fun k _ h => .inr h)⟩
    rcases hx with ⟨rfl, hh⟩ | ⟨v, rfl, hh⟩
    · exact ⟨X', i1.same3 hoa hr hcg l.1 l.2.1 l.2.2.1 l.2.2.2 hh, fun k hk => .inl hk, rfl, rfl, rfl⟩
    · have key : ∀ j, OwnB X j → w'.heap[j]? = w1.heap[j]? := fun j hj => hcg.block j (i1.own_lt hj).2 (fun hh => by have h1 := hoa j hj; have h2 := i1.nb j hj; omega)
      have nv : ∀ j, v.ownBlock = some j → w1.heap.size ≤ j := fun j e => hh.block e
      refine ⟨_, ⟨hr, ?_, ?_, ?_, ?_, hh.low b1, fun j hj => ?_, fun j hj => ?_, fun j hj => ?_⟩, fun j hj => ?_, rfl, rfl, rfl⟩
      · rw [l.1]; exact i1.vr.kept fun j e => key j (.inl e)
      · rw [l.2.1]; exact i1.vw.kept fun j e => key j (.inr (.inl e))
      · rw [l.2.2.1]; exact i1.vl.kept fun j e => key j (.inr (.inr (.inl e)))
      · rw [l.2.2.2]; exact i1.vh.kept fun j e => key j (.inr (.inr (.inr (.inl e))))
      · have hj : X.vr.ownBlock = some j := hj
        have h := i1.apr j hj
        exact ⟨h.1, h.2.1, h.2.2.1, fun e => by have h1 := nv j e; have := (i1.own_lt (.inl hj)).2; omega⟩
      · have hj : X.vh.ownBlock = some j := hj
        have h := i1.aph j hj
        exact ⟨h.1, h.2.1, h.2.2.1, fun e => by have h1 := nv j e; have := (i1.own_lt (.inr (.inr (.inr (.inl hj))))).2; omega⟩
      · rcases hj with e | e | e | e | e
        · exact i1.nb j (.inl e)
        · exact i1.nb j (.inr (.inl e))
        · exact i1.nb j (.inr (.inr (.inl e)))
        · exact i1.nb j (.inr (.inr (.inr (.inl e))))
        · have := nv j e; have := i1.row.lt; omega
      · rcases hj with e | e | e | e | e
        · exact .inl (.inl e)
        · exact .inl (.inr (.inl e))
        · exact .inl (.inr (.inr (.inl e)))
        · exact .inl (.inr (.inr (.inr (.inl e))))
        · exact .inr (nv j e)
  by_cases h7 : T.phase = 7
  · refine stp 7 ((verifies T W, W)) h7 (by unfold step; rw [if_neg hp, if_neg h0, if_neg h1, if_neg h2, if_neg h3, if_neg h4, if_neg h5, if_neg h6, if_pos h7]) (T.checks.getD T.at_.toNat 0) (by unfold acc; rw [if_neg h0, if_neg h1, if_neg h2, if_neg h3, if_neg h4, if_neg h5, if_neg h6, if_pos h7]) (callFunc_run Tryz.func70 (by kernel_rfl) (by kernel_rfl)) (does_7 I.row h7) (fun w1 hb1 => ?_)
    obtain ⟨i1, a1, b1, r1, s1⟩ := K w1 hb1
    have l := verifies_lists T W
    have h0 := F.at_
    have h1 := F.chk h7
    obtain ⟨gc, cp, e1, e2, e3⟩ := tw_pick i1.vc (i := T.at_.toNat) (by omega)
    obtain ⟨Aw, cw, e4⟩ := told_slice i1.vw
    exact (verifies_any i1.row a1 hc hne hW hv e1 rfl h0 h1 (hoa gc (.inr (.inr (.inr (.inr e2))))) e3 e4 rfl).mono fun e w' h => stepOut_same i1 hoa h l.1 l.2.1 l.2.2.1 l.2.2.2.1 l.2.2.2.2
  by_cases h8 : T.phase = 8
  · refine stp 8 (stores T W) h8 (by unfold step; rw [if_neg hp, if_neg h0, if_neg h1, if_neg h2, if_neg h3, if_neg h4, if_neg h5, if_neg h6, if_neg h7, if_pos h8]) ((T.writes.getD T.at_.toNat (0, 0)).1) (by unfold acc; rw [if_neg h0, if_neg h1, if_neg h2, if_neg h3, if_neg h4, if_neg h5, if_neg h6, if_neg h7, if_pos h8]) (callFunc_run Tryz.func71 (by kernel_rfl) (by kernel_rfl)) (does_8 I.row h8) (fun w1 hb1 => ?_)
    obtain ⟨i1, a1, b1, r1, s1⟩ := K w1 hb1
    have l := stores_lists T W
    have h0 := F.at_
    have h1 := F.sto h8
    obtain ⟨gw, cw, e1, -, e2, e3⟩ := told_range i1.vw (i := T.at_.toNat) (by omega)
    exact (stores_any i1.row a1 hc hne hv rfl h0 e1 rfl h1 e2 e3).mono fun e w' h => stepOut_same i1 hoa h l.1 l.2.1 l.2.2.1 l.2.2.2.1 l.2.2.2.2
  by_cases h9 : T.phase = 9
  · refine stp 9 (releases T W) h9 (by unfold step; rw [if_neg hp, if_neg h0, if_neg h1, if_neg h2, if_neg h3, if_neg h4, if_neg h5, if_neg h6, if_neg h7, if_neg h8]) ((T.holds.getD T.at_.toNat (0, 0)).1) (by unfold acc; rw [if_neg h0, if_neg h1, if_neg h2, if_neg h3, if_neg h4, if_neg h5, if_neg h6, if_neg h7, if_neg h8]) (callFunc_run Tryz.func72 (by kernel_rfl) (by kernel_rfl)) (does_9 I.row h9) (fun w1 hb1 => ?_)
    obtain ⟨i1, a1, b1, r1, s1⟩ := K w1 hb1
    have l := releases_lists T W
    have h0 := F.at_
    have h1 := F.rel h9
    obtain ⟨gh, cw, e1, -, e2, e3⟩ := i1.vh.range (i := T.at_.toNat) (by omega)
    exact (releases_any i1.row a1 hc hne h0 e1 rfl h1 e2 e3).mono fun e w' h => stepOut_same i1 hoa h l.1 l.2.1 l.2.2.1 l.2.2.2.1 l.2.2.2.2
  omega

end Att
end Go.Proofs.YthojgahcpkdemaaGreat

/- what an attempt tells -/
namespace Go.Proofs.YthojgahcpkdemaaGreat
open Go.RowKit Go.Bas
namespace Att

set_option maxRecDepth 100000 in
theorem phase_any {w : World} {b : Nat} {X : AV} {T : AT} (H : Row w b X T) :
    Calls Tryz.prog 22 #[.pointer (some ⟨b, 0, none⟩)] w fun e w' => e = .returned (.int .i64 T.phase) ∧ Below w.heap.size w w' := by
  have g1 := H.get
  have B0 := Lib.hid (Below.refl w.heap.size w)
  clear H
  go_enter Tryz.func22, Tryz.ntmps22
  go_wp2
  go_ret
  exact ⟨rfl, B0.out⟩
set_option maxRecDepth 100000 in
theorem phase_nil (w : World) :
    Calls Tryz.prog 22 #[.pointer none] w fun e w' => e = .returned (.int .i64 10) ∧ Below w.heap.size w w' := by
  have B0 := Lib.hid (Below.refl w.heap.size w)
  go_enter Tryz.func22, Tryz.ntmps22
  go_wp2
  go_ret
  exact ⟨rfl, B0.out⟩

set_option maxRecDepth 100000 in
theorem seen_any {w : World} {b : Nat} {X : AV} {T : AT} (H : Row w b X T) :
    Calls Tryz.prog 30 #[.pointer (some ⟨b, 0, none⟩)] w fun e w' => e = .returned (.int .i64 T.seen) ∧ Below w.heap.size w w' := by
  have g1 := H.get
  have B0 := Lib.hid (Below.refl w.heap.size w)
  clear H
  go_enter Tryz.func30, Tryz.ntmps30
  go_wp2
  go_ret
  exact ⟨rfl, B0.out⟩
set_option maxRecDepth 100000 in
theorem seen_nil (w : World) :
    Calls Tryz.prog 30 #[.pointer none] w fun e w' => e = .returned (.int .i64 0) ∧ Below w.heap.size w w' := by
  have B0 := Lib.hid (Below.refl w.heap.size w)
  go_enter Tryz.func30, Tryz.ntmps30
  go_wp2
  go_ret
  exact ⟨rfl, B0.out⟩

set_option maxRecDepth 100000 in
theorem stamp_any {w : World} {b : Nat} {X : AV} {T : AT} (H : Row w b X T) :
    Calls Tryz.prog 23 #[.pointer (some ⟨b, 0, none⟩)] w fun e w' => e = .returned (.int .i64 T.stamp) ∧ Below w.heap.size w w' := by
  have g1 := H.get
  have B0 := Lib.hid (Below.refl w.heap.size w)
  clear H
  go_enter Tryz.func23, Tryz.ntmps23
  go_wp2
  go_ret
  exact ⟨rfl, B0.out⟩
set_option maxRecDepth 100000 in
theorem stamp_nil (w : World) :
    Calls Tryz.prog 23 #[.pointer none] w fun e w' => e = .returned (.int .i64 0) ∧ Below w.heap.size w w' := by
  have B0 := Lib.hid (Below.refl w.heap.size w)
  go_enter Tryz.func23, Tryz.ntmps23
  go_wp2
  go_ret
  exact ⟨rfl, B0.out⟩

def sureB (T : AT) : Bool := decide (T.phase = 8) || decide (T.how = 1)
set_option maxRecDepth 100000 in
theorem sure_any {w : World} {b : Nat} {X : AV} {T : AT} (H : Row w b X T) :
    Calls Tryz.prog 32 #[.pointer (some ⟨b, 0, none⟩)] w fun e w' => e = .returned (.bool (sureB T)) ∧ Below w.heap.size w w' := by
  have g1 := H.get
  have B0 := Lib.hid (Below.refl w.heap.size w)
  clear H
  by_cases h1 : T.phase = 8
  · have e : sureB T = true := by unfold sureB; simp [h1]
    rw [e]
    go_enter Tryz.func32, Tryz.ntmps32
    go_wp2
    go_ret
    exact ⟨rfl, B0.out⟩
  · by_cases h2 : T.how = 1
    · have e : sureB T = true := by unfold sureB; simp [h2]
      rw [e]
      go_enter Tryz.func32, Tryz.ntmps32
      go_wp2
      go_ret
      exact ⟨rfl, B0.out⟩
    · have e : sureB T = false := by unfold sureB; simp [h1, h2]
      rw [e]
      go_enter Tryz.func32, Tryz.ntmps32
      go_wp2
      go_ret
      exact ⟨by first | rfl | (show Ending.returned (.bool (T.phase == 8 || T.how == 1)) = _; simp [h1, h2]), B0.out⟩
set_option maxRecDepth 100000 in
theorem sure_nil (w : World) :
    Calls Tryz.prog 32 #[.pointer none] w fun e w' => e = .returned (.bool false) ∧ Below w.heap.size w w' := by
  have B0 := Lib.hid (Below.refl w.heap.size w)
  go_enter Tryz.func32, Tryz.ntmps32
  go_wp2
  go_ret
  exact ⟨rfl, B0.out⟩

end Att
end Go.Proofs.YthojgahcpkdemaaGreat

/- an attempt that is none, or over; a step without an arena -/
namespace Go.Proofs.YthojgahcpkdemaaGreat
open Go.RowKit Go.Bas View VIn IMap_
open Go.ChangeShapes Go.Sor
namespace Att

set_option maxRecDepth 100000 in
theorem step_nil (m : Value) (w : World) : Calls Tryz.prog 16 #[.pointer none, m] w fun e w' => e = .returned (.int .i64 2) ∧ Below w.heap.size w w' := by
  have B0 := Lib.hid (Below.refl w.heap.size w)
  go_enter Tryz.func16, Tryz.ntmps16
  go_wp2
  go_ret
  exact ⟨rfl, B0.out⟩
set_option maxRecDepth 100000 in
theorem step_over {w : World} {b : Nat} {X : AV} {T : AT} (H : Row w b X T) (hp : T.phase = 10) (m : Value) : Calls Tryz.prog 16 #[.pointer (some ⟨b, 0, none⟩), m] w fun e w' => e = .returned (.int .i64 (told T)) ∧ Below w.heap.size w w' := by
  have g1 := H.get
  have B0 := Lib.hid (Below.refl w.heap.size w)
  have e : told T = T.how := by unfold told; rw [if_pos hp]
  rw [e]
  clear H e
  go_enter Tryz.func16, Tryz.ntmps16
  go_wp2
  go_ret
  exact ⟨rfl, B0.out⟩
set_option maxRecDepth 100000 in
theorem step_none {w : World} {b : Nat} {X : AV} {T : AT} (H : Row w b X T) (hp : T.phase ≠ 10) : Calls Tryz.prog 16 #[.pointer (some ⟨b, 0, none⟩), .pointer none] w fun e w' => e = .returned (.int .i64 2) ∧ Row w' b X (fin T 2) ∧ Chg (fun k => k = b) w w' := by
  have g1 := H.get
  have p1 : (T.phase == 10) = false := by rw [beq_eq_false_iff_ne]; exact hp
  have EN := Lib.hid (end_any H 2)
  clear H hp
  go_enter Tryz.func16, Tryz.ntmps16
  go_wp2_with (first
    | (go_at_call 47; refine EN.out.mono ?_; rintro e w5 ⟨rfl, hr, hc5⟩; have HR := Lib.hid hr; clear hr))
  go_ret
  exact ⟨rfl, HR.out, hc5⟩

/-- slices.Clone of pairs -/
theorem told_made (w : World) : View.Told (w.alloc (.cells #[] 62)) w.heap.size [] (.slice (some ⟨w.heap.size, 0, none⟩) 0 0) :=
  ⟨some ⟨w.heap.size, 0, none⟩, 0, rfl, by simpa [flat, vals] using World.ownsRow_made w #[] 0 (Nat.le_refl _) (Nat.zero_le _) rfl⟩

def CloneOut (w : World) (m : M) (e : Ending) (w' : World) : Prop := ∃ v, e = .returned v ∧ View.Told w' w.heap.size m v ∧ Below w.heap.size w w'
set_option maxRecDepth 100000 in
set_option maxHeartbeats 1000000 in
theorem clone_any {w : World} {base : Nat} {m : M} {v : Value} (h : View.Told w base m v) (hn : m.length ≤ 10000) :
    Calls Tryz.prog 56 #[v] w (CloneOut w m) := by
  obtain ⟨A, cap, rfl⟩ := told_slice h
  have heq := Lib.run_eql_slice_nil (P := Tryz.prog) w 53 62 A m.length cap 0 0 Tryz.underlying53
  cases A with
  | none =>
    have hm : m = [] := by
      obtain ⟨A', c', e, hown⟩ := h
      injection e with e1 e2 e3
      subst e1
      rcases hown.2 with ⟨_, h1⟩ | ⟨g, _, _, hv, _⟩
      · exact List.eq_nil_of_length_eq_zero h1
      · injection hv with e; cases e
    have FIN : Hid (CloneOut w m (.returned (.slice none 0 0)) w) := ⟨_, rfl, by rw [hm]; exact told_nil _ _, Below.refl _ _⟩
    obtain ⟨n, hnn⟩ : ∃ n, m.length = n := ⟨_, rfl⟩
    rw [hnn] at heq ⊢
    clear h hm hnn
    go_enter Tryz.func56, Tryz.ntmps56
    go_wp2
    go_ret
    exact FIN.out
  | some ad =>
    have hP := h.pairs
    obtain ⟨i0, hi0, hz0, hz1, hz2⟩ := info_parts infoPair
    obtain ⟨B, hB⟩ : ∃ B, w.heap.size = B := ⟨_, rfl⟩
    obtain ⟨w1, hw1⟩ : ∃ w1, w.alloc (.cells #[] 62) = w1 := ⟨_, rfl⟩
    have t1 := told_made w
    have b1 : Below B w w1 := by rw [← hw1, ← hB]; exact (Below.refl _ _).alloc (Nat.le_refl _) _
    rw [hw1, hB] at t1
    obtain ⟨A', c', e, hmx, hc⟩ := hP
    injection e with e1 e2 e3
    subst e3
    have news : 0 < m.length → ∃ a, (some ad : Option Addr) = some a ∧ ∀ j u, (flat (vals m))[j]? = some u → w1.cell? (a.add j) = some u := fun h0 => by
      obtain ⟨b, off, e4, hlt, hcl⟩ := hc h0
      rw [← e1] at e4
      injection e4 with e4
      subst e4
      refine ⟨_, rfl, fun j u hj => ?_⟩
      have hadd : (⟨b, off, none⟩ : Addr).add j = ⟨b, off + j, none⟩ := by unfold Addr.add; split <;> simp_all
      rw [hadd, b1.cell (p := ⟨b, off + j, none⟩) (by rw [← hB]; exact hlt)]
      have hjl : j < m.length * 2 := by
        have := (List.getElem?_eq_some_iff.1 hj).1
        rw [flat_len] at this; exact this
      obtain ⟨f1, f2⟩ := flat_get (m := m) (i := j / 2) (by omega)
      obtain ⟨c1, c2⟩ := hcl (j / 2) (by omega)
      by_cases ho : j % 2 = 0
      · have ej : j / 2 * 2 = j := by omega
        rw [ej] at f1 c1
        rw [c1, ← hj, f1]
      · have ej : j / 2 * 2 + 1 = j := by omega
        rw [ej] at f2
        rw [show off + j = off + j / 2 * 2 + 1 by omega, c2, ← hj, f2]
    obtain ⟨A1, cap1, ev, hown⟩ := t1
    injection ev with ev1 ev2 ev3
    clear ev2
    subst ev1 ev3
    have one : ∀ u ∈ flat (vals m), u.oneCell' = true := fun u hu => by
      obtain ⟨j, hj, hju⟩ := List.getElem_of_mem hu
      have hj2 := hj
      rw [flat_len] at hj2
      obtain ⟨f1, f2⟩ := flat_get (m := m) (i := j / 2) (by omega)
      have hju' : (flat (vals m))[j]? = some u := by rw [List.getElem?_eq_getElem hj, hju]
      by_cases ho : j % 2 = 0
      · rw [show j / 2 * 2 = j by omega, hju'] at f1; injection f1 with f1; rw [f1]; rfl
      · rw [show j / 2 * 2 + 1 = j by omega, hju'] at f2; injection f2 with f2; rw [f2]; rfl
    have HOW := Lib.hid hown
    have NEWS := Lib.hid news
    have ONE := Lib.hid one
    have FLN := Lib.hid (flat_len m)
    have B1 := Lib.hid b1
    have s1 : w1.heap.size = B + 1 := by rw [← hw1, ← hB]; simp
    have S1 := Lib.hid s1
    obtain ⟨n, hnn⟩ : ∃ n, m.length = n := ⟨_, rfl⟩
    have HN := Lib.hid hnn
    rw [hnn] at heq NEWS FLN hn ⊢
    clear h hc hmx hown news one b1 hnn e1 e2 s1
    go_enter Tryz.func56, Tryz.ntmps56
    go_wp2_with (first
      | (at_builtin; refine wpList_append_any rfl _ _ 53 rfl B 62 i0 (.agg #[.int .i64 0, .int .i64 0]) 2 16 Tryz.underlying53 hi0 hz0 hz1 hz2 rfl (by decide) (.slice (some ⟨B, 0, none⟩) 0 0) 0 [] rfl HOW.out (some ad) n cap (flat (vals m)) rfl FLN.out NEWS.out ONE.out (by unfold maxLen; omega) (by omega) (by rw [S1.out]; omega) ?_; intro v2 w2 ho hg hb2))
    trace_state
    obtain ⟨A2, c2, rfl⟩ := own_slice ho
    have FIN : Hid (CloneOut w m (.returned (.slice A2 (0 + n) c2)) w2) := by
      refine ⟨_, rfl, ⟨A2, c2, by rw [Nat.zero_add, HN.out], ?_⟩, ?_⟩
      · rw [hB, HN.out]
        simpa using ho
      · rw [hB]
        exact B1.out.grown hg (by rw [S1.out]; omega) (fun k hk => by have : B = k := Option.some.inj hk; omega)
    clear ho hg hb2
    go_wp2
    go_ret
    exact FIN.out

def ReadsOut := CloneOut
set_option maxRecDepth 100000 in
theorem reads_any {w : World} {b base : Nat} {X : AV} {T : AT} (I : IsAtt w b base X T) (hn : T.reads.length ≤ 10000) :
    Calls Tryz.prog 29 #[.pointer (some ⟨b, 0, none⟩)] w (CloneOut w T.reads) := by
  have g1 := I.row.get
  have CL := Lib.hid (clone_any I.vr hn)
  clear I hn
  go_enter Tryz.func29, Tryz.ntmps29
  go_wp2_with (first
    | (go_at_call 56; refine CL.out.mono ?_; rintro e w5 ⟨v, rfl, h1, h2⟩; have FIN : Hid (CloneOut w T.reads (.returned v) w5) := ⟨v, rfl, h1, h2⟩; clear h1 h2))
  go_ret
  exact FIN.out
/-- what it tells that it wrote -/
def wroteB (T : AT) : M := if sureB T then T.writes else []
set_option maxRecDepth 100000 in
theorem writes_any {w : World} {b base : Nat} {X : AV} {T : AT} (I : IsAtt w b base X T) (hn : T.writes.length ≤ 10000) :
    Calls Tryz.prog 24 #[.pointer (some ⟨b, 0, none⟩)] w (CloneOut w (wroteB T)) := by
  have HI := Lib.hid I
  have su := sure_any I.row
  unfold wroteB
  obtain ⟨s, hs⟩ : ∃ s, sureB T = s := ⟨_, rfl⟩
  rw [hs] at su ⊢
  have SU := Lib.hid su
  clear I su hs
  cases s with
  | true =>
    have CL : Hid (∀ w1, Below w.heap.size w w1 → Calls Tryz.prog 56 #[X.vw] w1 (CloneOut w1 T.writes)) := fun w1 hb => clone_any (HI.out.vw.kept fun k hk => hb.block k (HI.out.vw.own_lt hk)) hn
    go_enter Tryz.func24, Tryz.ntmps24
    go_wp2_with (first
      | (go_at_call 32; refine SU.out.mono ?_; rintro e w4 ⟨rfl, hb4⟩
         have R4 : Row w4 b X T := HI.out.row.keep (hb4.block b HI.out.row.lt)
         have q1 := R4.get
         have B4 := Lib.hid hb4
         clear R4 hb4)
      | (go_at_call 56; refine (CL.out _ B4.out).mono ?_; rintro e w5 ⟨v, rfl, h1, h2⟩; have FIN : Hid (CloneOut w T.writes (.returned v) w5) := ⟨v, rfl, h1.low B4.out.size, B4.out.trans (h2.mono B4.out.size)⟩; clear h1 h2))
    go_ret
    exact FIN.out
  | false =>
    go_enter Tryz.func24, Tryz.ntmps24
    go_wp2_with (first
      | (go_at_call 32; refine SU.out.mono ?_; rintro e w4 ⟨rfl, hb4⟩
         have FIN : Hid (CloneOut w [] (.returned (.slice none 0 0)) w4) := ⟨_, rfl, told_nil _ _, hb4⟩
         clear hb4))
    go_ret
    exact FIN.out

end Att
end Go.Proofs.YthojgahcpkdemaaGreat

/- attempts in plain: what holds stays so; each step leaves fewer -/
namespace Go.Proofs.YthojgahcpkdemaaGreat
namespace Att

theorem WF.finish {E : Env} {lo : Int} {d : Nat} {T : AT} (h : WF E lo d T) (how : Int) : WF E lo d (fin T how) := by
  unfold fin
  constructor <;> simp only <;> first | omega | exact h.reads
theorem WF.up {E : Env} {lo : Int} {d : Nat} {T T1 : AT} (h : WF E lo d T) (h4 : 4 ≤ T.phase ∧ T.phase ≤ 9) (e1 : T1.reads = T.reads) (e2 : T1.writes = T.writes) (e3 : T1.locks = T.locks) (e4 : T1.holds = T.holds) {how : Int} (hh : how ≠ 1) : WF E lo d (giveUp T1 how) := by
  unfold giveUp
  have hr := h.reads
  rw [← e1] at hr
  split
  · constructor <;> simp only [fin] <;> first | omega | exact hr
  · rename_i hn
    have hl : 0 < T1.holds.length := List.length_pos_iff.2 hn
    have h1 := h.held h4
    rw [← e2, ← e3, ← e4] at h1
    constructor <;> simp only <;> first | omega | exact hr | exact fun _ => h1

theorem run_tail {E : Env} {lo : Int} {d : Nat} (G : Good E lo d) {T : AT} {r : M} (hr : T.reads = (2, 0) :: r) (hn : (r.map (·.1)).Nodup) (hb : ∀ p ∈ r, lo ≤ p.1 ∧ p.1 < lo + d) (h0 : T.how = 0) (hh : T.holds = []) : WF E lo d (goesOn E T) := by
  have hd : T.reads.tail = r := by rw [hr]; rfl
  have R : T.reads = [] ∨ ∃ r, T.reads = (2, 0) :: r ∧ (r.map (·.1)).Nodup ∧ ∀ p ∈ r, lo ≤ p.1 ∧ p.1 < lo + d := .inr ⟨r, hr, hn, hb⟩
  unfold goesOn
  simp only [hd]
  split
  · rename_i hneed
    obtain ⟨g1, g2⟩ := G.need r hneed
    have N : T.how = 0 ∧ T.holds = [] ∧ ((T.reads = [] ∧ (E.run r).1 = 2) ∨ (T.reads ≠ [] ∧ (lo ≤ (E.run r).1 ∧ (E.run r).1 < lo + d) ∧ (E.run r).1 ∉ T.reads.tail.map (·.1))) :=
      ⟨h0, hh, .inr ⟨by rw [hr]; simp, g1, by rw [hd]; exact g2⟩⟩
    constructor <;> simp only <;> first | omega | exact R | exact fun _ => N | exact fun _ => h0
  · rename_i hneed
    split
    · constructor <;> simp only [fin] <;> first | omega | exact R
    · rename_i hw
      obtain ⟨g1, g2⟩ := G.wrote r (by omega)
      have hl : 0 < (locksOf E (E.run r).2).length := by
        obtain ⟨p, q, e⟩ := List.exists_cons_of_ne_nil hw
        apply List.length_pos_iff.2
        intro e2
        have : lock E p.1 ∈ locksOf E (E.run r).2 := mem_locksOf.2 ⟨p, by rw [e]; simp, rfl⟩
        rw [e2] at this; cases this
      have e0 : T.holds.length = 0 := by rw [hh]; rfl
      constructor <;> simp only <;> first | omega | exact R | exact fun _ => ⟨hw, g1, g2, trivial⟩ | exact fun _ => h0 | exact fun _ => ⟨trivial, by omega, by rw [hh]; simp, g2⟩ | (intro _; omega)

theorem locks_in {E : Env} {lo : Int} {d : Nat} (G : Good E lo d) {l : M} (h : ∀ p ∈ l, 0 ≤ p.1 ∧ p.1 < E.words) : ∀ x ∈ locksOf E l, 3 ≤ x ∧ x < 3 + E.stripes := fun x hx => by
  obtain ⟨p, hp, rfl⟩ := mem_locksOf.1 hx
  exact lock_in G (h p hp).1 (h p hp).2
theorem up_locksOf (E : Env) (l : M) : Up (locksOf E l) := up_rise
theorem Up.filter {l : List Int} (h : Up l) (p : Int → Bool) : Up (l.filter p) := List.Pairwise.sublist List.filter_sublist h

theorem reads_in {E : Env} {lo : Int} {d : Nat} (G : Good E lo d) {T : AT} (h : WF E lo d T) : ∀ p ∈ T.reads, 0 ≤ p.1 ∧ p.1 < E.words := fun p hp => by
  have := G.lo3; have := G.fits; have := G.str
  rcases h.reads with e | ⟨r, e, _, hb⟩
  · rw [e] at hp; cases hp
  · rw [e] at hp
    rcases List.mem_cons.1 hp with rfl | hp
    · exact ⟨by decide, by show (2 : Int) < _; omega⟩
    · have := hb p hp; omega

/-- how many steps are left, at most: w stripes, d words -/
def mu (S : Int) (d : Nat) (T : AT) : Int :=
  if T.phase = 10 then 0
  else if T.phase = 0 then 3 * (d + 1) + 1 + (4 * S + d + 1)
  else if T.phase = 1 then 3 * (d + 1 - T.reads.length) + (4 * S + d + 1)
  else if T.phase = 2 then 3 * (d + 1 - T.reads.length) + (4 * S + d)
  else if T.phase = 3 then 3 * (d + 1 - T.reads.length) + (4 * S + d - 1)
  else if T.phase = 4 then 2 * (T.locks.length - T.holds.length) + 1 + S + T.writes.length + T.locks.length
  else if T.phase = 5 then 2 * (T.locks.length - T.holds.length) + S + T.writes.length + T.locks.length
  else if T.phase = 6 then 1 + S + T.writes.length + T.locks.length
  else if T.phase = 7 then (T.checks.length - T.at_) + T.writes.length + T.locks.length
  else if T.phase = 8 then (T.writes.length - T.at_) + T.locks.length
  else T.holds.length - T.at_

theorem nodup_len {lo : Int} : ∀ (d : Nat) (l : List Int), l.Nodup → (∀ x ∈ l, lo ≤ x ∧ x < lo + (d : Int)) → l.length ≤ d
  | 0, [], _, _ => Nat.le_refl _
  | 0, x :: r, _, h => by have h1 := h x (by simp); simp at h1; omega
  | d + 1, l, hn, h => by
    have h1 : (l.filter fun x => decide (x ≠ lo + d)).length ≤ d := nodup_len (lo := lo) d _ (hn.sublist List.filter_sublist) fun x hx => by
      obtain ⟨hx, hx2⟩ := List.mem_filter.1 hx
      have := h x hx
      simp at hx2
      omega
    have h2 : ∀ l : List Int, l.Nodup → l.length ≤ (l.filter fun x => decide (x ≠ lo + d)).length + 1 := by
      intro l hn
      induction l with
      | nil => simp
      | cons y r ih =>
        have h3 := List.nodup_cons.1 hn
        rw [List.filter_cons]
        by_cases c : y = lo + d
        · rw [if_neg (by simpa using c)]
          have : r.filter (fun x => decide (x ≠ lo + d)) = r := List.filter_eq_self.2 fun x hx => by
            simp only [decide_eq_true_eq]
            rintro rfl
            exact h3.1 (by rw [c]; exact hx)
          rw [this]; simp
        · rw [if_pos (by simpa using c)]
          have := ih h3.2
          simp only [List.length_cons]; omega
    have := h2 l hn
    omega

structure Ok (E : Env) (lo : Int) (d : Nat) (T T' : AT) : Prop where
  wf : WF E lo d T'
  less : mu E.stripes d T' + 1 ≤ mu E.stripes d T
theorem mu_fin (S : Int) (d : Nat) (T : AT) (how : Int) : mu S d (fin T how) = 0 := by unfold mu fin; simp
theorem mu_up {S : Int} {d : Nat} (T : AT) (how : Int) : mu S d (giveUp T how) = T.holds.length := by
  unfold giveUp
  split
  · rename_i h; rw [mu_fin, h]; rfl
  · unfold mu; simp

theorem reads_len {E : Env} {lo : Int} {d : Nat} {T : AT} (h : WF E lo d T) : T.reads.length ≤ d + 1 := by
  rcases h.reads with e | ⟨r, e, hn, hb⟩
  · rw [e]; simp
  · have := nodup_len d _ hn (fun x hx => by obtain ⟨p, hp, rfl⟩ := List.mem_map.1 hx; exact hb p hp)
    rw [e]; simpa using this
theorem up_len {d : Nat} {lo : Int} {l : List Int} (h : Up l) (hb : ∀ x ∈ l, lo ≤ x ∧ x < lo + d) : l.length ≤ d := nodup_len d _ h.nodup hb
theorem locks_len {E : Env} {lo : Int} {d : Nat} (G : Good E lo d) {l : M} (h : ∀ p ∈ l, 0 ≤ p.1 ∧ p.1 < E.words) : ((locksOf E l).length : Int) ≤ E.stripes := by
  have := Up.len (up_locksOf E l) (locks_in G h)
  have := G.str
  rw [if_pos (by omega)] at *
  omega
theorem wr_in {E : Env} {lo : Int} {d : Nat} (G : Good E lo d) {l : M} (h : ∀ p ∈ l, lo ≤ p.1 ∧ p.1 < lo + d) : ∀ p ∈ l, 0 ≤ p.1 ∧ p.1 < E.words := fun p hp => by
  have := h p hp; have := G.lo3; have := G.fits; have := G.str; omega

set_option maxHeartbeats 1000000 in
theorem ok_step {E : Env} {lo : Int} {d : Nat} (G : Good E lo d) {T : AT} (h : WF E lo d T) (W : List Int) (hp : T.phase ≠ 10) : Ok E lo d T (step E T W).1 := by
  have hph := h.ph
  have hrl := reads_len h
  have S1 := G.str
  unfold step
  rw [if_neg hp]
  by_cases c0 : T.phase = 0
  · rw [if_pos c0]
    obtain ⟨z1, z2, z3⟩ := h.zero c0
    have e0 : T.reads.length = 0 := by rw [z1]; rfl
    unfold sees
    simp only
    split
    · refine ⟨?_, ?_⟩
      · constructor <;> simp only [fin] <;> first | omega | exact .inl z1
      · unfold mu fin; simp [c0]; omega
    · refine ⟨?_, ?_⟩
      · have N : T.how = 0 ∧ T.holds = [] ∧ ((T.reads = [] ∧ (2 : Int) = 2) ∨ (T.reads ≠ [] ∧ (lo ≤ (2 : Int) ∧ (2 : Int) < lo + d) ∧ (2 : Int) ∉ T.reads.tail.map (·.1))) := ⟨z2, z3, .inl ⟨z1, rfl⟩⟩
        constructor <;> simp only <;> first | omega | exact .inl z1 | exact fun _ => z2 | (intro _; simpa using N)
      · unfold mu; simp [c0, e0]; omega
  rw [if_neg c0]
  by_cases c1 : T.phase = 1
  · rw [if_pos c1]
    have N := h.needs (.inl c1)
    unfold locked
    simp only
    split
    · refine ⟨?_, ?_⟩
      · constructor <;> simp only <;> first | omega | exact h.reads | exact fun _ => N | exact fun _ => N.1
      · unfold mu; simp [c1]; omega
    · refine ⟨WF.finish ?_ _, by rw [mu_fin]; unfold mu; simp [c1]; omega⟩
      constructor <;> simp only <;> first | omega | exact h.reads | exact fun _ => N | exact fun _ => N.1
  rw [if_neg c1]
  by_cases c2 : T.phase = 2
  · rw [if_pos c2]
    have N := h.needs (.inr (.inl c2))
    unfold loads
    refine ⟨?_, by unfold mu; simp [c2]; omega⟩
    constructor <;> simp only <;> first | omega | exact h.reads | exact fun _ => N | exact fun _ => N.1
  rw [if_neg c2]
  by_cases c3 : T.phase = 3
  · rw [if_pos c3]
    obtain ⟨n1, n2, n3⟩ := h.needs (.inr (.inr c3))
    unfold confirms
    split
    · exact ⟨h.finish _, by rw [mu_fin]; unfold mu; simp [c3]; omega⟩
    · rename_i hc
      have key : ∃ r, T.reads ++ [(T.na, T.nv)] = (2, 0) :: r ∧ (r.map (·.1)).Nodup ∧ ∀ p ∈ r, lo ≤ p.1 ∧ p.1 < lo + d := by
        rcases n3 with ⟨e1, e2⟩ | ⟨e1, e2, e3⟩
        · refine ⟨[], ?_, by simp, by simp⟩
          have : T.nv = 0 := by
            by_cases e : T.nv = 0
            · exact e
            · exact absurd (.inr ⟨e2, e⟩) hc
          rw [e1, e2, this]; rfl
        · rcases h.reads with e | ⟨r, e, hn, hb⟩
          · exact absurd e e1
          · rw [e] at e3
            refine ⟨r ++ [(T.na, T.nv)], by rw [e]; rfl, ?_, ?_⟩
            · rw [List.map_append, List.nodup_append]
              refine ⟨hn, by simp, fun x hx y hy => ?_⟩
              simp at hy
              subst hy
              rintro rfl
              exact e3 (by simpa using hx)
            · intro p hp
              rcases List.mem_append.1 hp with hp | hp
              · exact hb p hp
              · rw [List.mem_singleton.1 hp]; exact e2
      obtain ⟨r, hr, hn, hb⟩ := key
      have W1 := run_tail G (T := { T with reads := T.reads ++ [(T.na, T.nv)] }) hr hn hb n1 n2
      refine ⟨W1, ?_⟩
      have hl2 := reads_len W1
      have e3 : mu E.stripes d T = 3 * (d + 1 - T.reads.length) + (4 * E.stripes + d - 1) := by unfold mu; simp [c3]
      rw [e3]
      have hrl2 : (T.reads ++ [(T.na, T.nv)]).length = T.reads.length + 1 := by simp
      have hle : T.reads.length + 1 ≤ d + 1 := by
        have := nodup_len d _ hn (fun x hx => by obtain ⟨p, hp, rfl⟩ := List.mem_map.1 hx; exact hb p hp)
        have h4 := congrArg List.length hr
        rw [hrl2] at h4
        simp at h4 this
        omega
      unfold goesOn
      simp only
      split
      · unfold mu; simp; omega
      · split
        · rw [mu_fin]; omega
        · rename_i hneed hw
          obtain ⟨g1, g2⟩ := G.wrote (T.reads ++ [(T.na, T.nv)]).tail (by omega)
          have l1 := locks_len G (wr_in G g2)
          have l2 := up_len (d := d) (lo := lo) g1 (fun x hx => by obtain ⟨p, hp, rfl⟩ := List.mem_map.1 hx; exact g2 p hp)
          simp only [List.length_map] at l2
          unfold mu
          simp [n2]
          omega
  rw [if_neg c3]
  have lp : (4 ≤ T.phase ∧ T.phase ≤ 8 ∨ T.phase = 9 ∧ T.how = 1) → 0 < T.locks.length := fun hc => by
    obtain ⟨w1, w2, w3, w4⟩ := h.wrote hc
    obtain ⟨p, q, e⟩ := List.exists_cons_of_ne_nil w1
    apply List.length_pos_iff.2
    intro e2
    have : lock E p.1 ∈ locksOf E T.writes := mem_locksOf.2 ⟨p, by rw [e]; simp, rfl⟩
    rw [← w4, e2] at this; cases this
  by_cases c4 : T.phase = 4
  · rw [if_pos c4]
    have H := h.held (by omega)
    have P := h.part (.inl c4)
    have Wr := h.wrote (by omega)
    have G0 := h.goes (by omega)
    unfold looks
    simp only
    split
    · refine ⟨?_, by unfold mu; simp [c4]; omega⟩
      constructor <;> simp only <;> first | omega | exact h.reads | exact fun _ => H | exact fun _ => P | exact fun _ => Wr | exact fun _ => G0
    · refine ⟨WF.up h (by omega) (by rfl) (by rfl) (by rfl) (by rfl) (by decide), ?_⟩
      rw [mu_up]; unfold mu; simp [c4]; omega
  rw [if_neg c4]
  by_cases c5 : T.phase = 5
  · rw [if_pos c5]
    have H := h.held (by omega)
    have P := h.part (.inr c5)
    have Wr := h.wrote (by omega)
    have G0 := h.goes (by omega)
    have key : Ok E lo d T { T with holds := T.holds ++ [(T.locks.getD T.holds.length 0, T.was)], phase := if (T.holds ++ [(T.locks.getD T.holds.length 0, T.was)]).length = T.locks.length then 6 else 4 } := by
      have hl : (T.holds ++ [(T.locks.getD T.holds.length 0, T.was)]).length = T.holds.length + 1 := by simp
      have H2 : T.locks = locksOf E T.writes ∧ (T.holds ++ [(T.locks.getD T.holds.length 0, T.was)]).length ≤ T.locks.length ∧ (T.holds ++ [(T.locks.getD T.holds.length 0, T.was)]).map (·.1) = T.locks.take (T.holds ++ [(T.locks.getD T.holds.length 0, T.was)]).length ∧ (∀ p ∈ T.writes, lo ≤ p.1 ∧ p.1 < lo + d) := by
        refine ⟨H.1, by rw [hl]; omega, ?_, H.2.2.2⟩
        rw [hl, List.map_append, H.2.2.1, List.take_succ_eq_append_getElem P]
        congr 1
        simp [List.getD_eq_getElem?_getD, P]
      split
      · rename_i he
        rw [hl] at he
        refine ⟨?_, by unfold mu; simp [c5]; omega⟩
        constructor <;> simp only <;> first | omega | exact h.reads | exact fun _ => H2 | exact fun _ => Wr | exact fun _ => G0 | (intro _; rw [hl]; omega)
      · rename_i he
        rw [hl] at he
        refine ⟨?_, by unfold mu; simp [c5]; omega⟩
        constructor <;> simp only <;> first | omega | exact h.reads | exact fun _ => H2 | exact fun _ => Wr | exact fun _ => G0 | (intro _; rw [hl]; omega)
    unfold grabs
    simp only
    split
    · exact key
    · split
      · exact key
      · refine ⟨WF.up h (by omega) (by rfl) (by rfl) (by rfl) (by rfl) (by decide), ?_⟩
        rw [mu_up]; unfold mu; simp [c5]; omega
  rw [if_neg c5]
  by_cases c6 : T.phase = 6
  · rw [if_pos c6]
    have H := h.held (by omega)
    have F := h.full (by omega)
    have Wr := h.wrote (by omega)
    have G0 := h.goes (by omega)
    have wl : 0 < T.writes.length := List.length_pos_iff.2 Wr.1
    unfold bumps
    simp only
    split
    · refine ⟨WF.up h (by omega) (by rfl) (by rfl) (by rfl) (by rfl) (by decide), ?_⟩
      rw [mu_up]; unfold mu; simp [c6]; omega
    · obtain ⟨ck, hck⟩ : ∃ ck, ((locksOf E T.reads).filter fun x => !T.locks.contains x) = ck := ⟨_, rfl⟩
      have ku : Up ck := by rw [← hck]; exact (up_locksOf _ _).filter _
      have kin : ∀ x ∈ ck, 3 ≤ x ∧ x < 3 + E.stripes := fun x hx => by
        rw [← hck] at hx
        exact locks_in G (reads_in G h) x (List.mem_filter.1 hx).1
      have kl := Up.len ku kin
      rw [if_pos (by omega)] at kl
      rw [hck]
      unfold next
      split
      · rename_i h0
        refine ⟨?_, by unfold mu; simp [c6]; omega⟩
        constructor <;> simp only <;> first | omega | exact h.reads | exact fun _ => H | exact fun _ => Wr | exact fun _ => G0 | exact fun _ => F
      · rename_i h0
        have K : (0 : Int) ≤ 0 ∧ (0 : Int) < ck.length ∧ Up ck ∧ ∀ x ∈ ck, 3 ≤ x ∧ x < 3 + E.stripes := ⟨by omega, by omega, ku, kin⟩
        refine ⟨?_, by unfold mu; simp [c6]; omega⟩
        constructor <;> simp only <;> first | omega | exact h.reads | exact fun _ => H | exact fun _ => Wr | exact fun _ => G0 | exact fun _ => F | exact fun _ => K
  rw [if_neg c6]
  by_cases c7 : T.phase = 7
  · rw [if_pos c7]
    have H := h.held (by omega)
    have F := h.full (by omega)
    have Wr := h.wrote (by omega)
    have G0 := h.goes (by omega)
    have K := h.chk c7
    have wl : 0 < T.writes.length := List.length_pos_iff.2 Wr.1
    unfold verifies
    simp only
    split
    · split
      · unfold next
        rw [if_neg (by omega)]
        refine ⟨?_, by unfold mu; simp [c7]; omega⟩
        constructor <;> simp only <;> first | omega | exact h.reads | exact fun _ => H | exact fun _ => Wr | exact fun _ => G0 | exact fun _ => F
      · have K2 : 0 ≤ T.at_ + 1 ∧ T.at_ + 1 < T.checks.length ∧ Up T.checks ∧ ∀ x ∈ T.checks, 3 ≤ x ∧ x < 3 + E.stripes := ⟨by omega, by omega, K.2.2.1, K.2.2.2⟩
        refine ⟨?_, by unfold mu; simp [c7]; omega⟩
        constructor <;> simp only <;> first | omega | exact h.reads | exact fun _ => H | exact fun _ => Wr | exact fun _ => G0 | exact fun _ => F | exact fun _ => K2
    · refine ⟨WF.up h (by omega) (by rfl) (by rfl) (by rfl) (by rfl) (by decide), ?_⟩
      rw [mu_up]; unfold mu; simp [c7]; omega
  rw [if_neg c7]
  by_cases c8 : T.phase = 8
  · rw [if_pos c8]
    have H := h.held (by omega)
    have F := h.full (by omega)
    have Wr := h.wrote (by omega)
    have G0 := h.goes (by omega)
    have K := h.sto c8
    have L := lp (by omega)
    unfold stores
    simp only
    split
    · unfold next
      simp only
      rw [if_neg (by omega)]
      refine ⟨?_, by unfold mu; simp [c8]; omega⟩
      constructor <;> simp only <;> first | omega | exact h.reads | exact fun _ => H | exact fun _ => Wr | exact fun _ => F
    · refine ⟨?_, by unfold mu; simp [c8]; omega⟩
      constructor <;> simp only <;> first | omega | exact h.reads | exact fun _ => H | exact fun _ => Wr | exact fun _ => G0 | exact fun _ => F
  rw [if_neg c8]
  have c9 : T.phase = 9 := by omega
  have H := h.held (by omega)
  have K := h.rel c9
  unfold releases
  simp only
  split
  · refine ⟨?_, by rw [mu_fin]; unfold mu; simp [c9]; omega⟩
    constructor <;> simp only [fin] <;> first | omega | exact h.reads
  · have Wr := h.wrote
    have F := h.full
    refine ⟨?_, by unfold mu; simp [c9]; omega⟩
    constructor <;> simp only <;> first | omega | exact h.reads | exact fun _ => H | exact Wr | exact F

theorem mu_nonneg {E : Env} {lo : Int} {d : Nat} (G : Good E lo d) {T : AT} (h : WF E lo d T) : 0 ≤ mu E.stripes d T := by
  have := G.str
  have := reads_len h
  have hp := h.ph
  unfold mu
  split
  · omega
  split
  · omega
  split
  · omega
  split
  · omega
  split
  · omega
  have H := h.held
  split
  · have := H (by omega); omega
  split
  · have := H (by omega); omega
  split
  · omega
  split
  · have := h.chk (by omega); omega
  split
  · have := h.sto (by omega); omega
  · have := h.rel (by omega); omega

end Att
end Go.Proofs.YthojgahcpkdemaaGreat

/- attempts in plain: what stays within bounds -/
namespace Go.Proofs.YthojgahcpkdemaaGreat
open IMap_ VIn
namespace Att

theorem ld_out {W : List Int} {a : Int} (h : inn W a = false) : ld W a = 0 := by unfold ld; rw [h]; rfl
theorem ld_set {W : List Int} {k : Int} (x : Int) (h : inn W k = true) (a : Int) : ld (W.set k.toNat x) a = if a = k then x else ld W a := by
  unfold inn at h
  have h1 : 0 ≤ k ∧ k < W.length := by simpa using h
  unfold ld inn
  rw [List.length_set]
  by_cases e : a = k
  · subst e
    rw [if_pos rfl, if_pos (by simpa using h1)]
    rw [List.getD_eq_getElem?_getD, List.getElem?_set_self (by omega)]; rfl
  · rw [if_neg e]
    by_cases h2 : 0 ≤ a ∧ a < W.length
    · rw [if_pos (by simpa using h2), if_pos (by simpa using h2), List.getD_eq_getElem?_getD, List.getElem?_set_ne (by omega), List.getD_eq_getElem?_getD]
    · rw [if_neg (by simpa using h2), if_neg (by simpa using h2)]
theorem ld_st' (W : List Int) (k x a : Int) : ld (st W k x) a = if inn W k = true ∧ a = k then x else ld W a := by
  unfold st
  cases h : inn W k with
  | true => rw [if_pos rfl, ld_set x h]; simp
  | false => simp
theorem ld_rep (n : Nat) (k : Int) : ld (List.replicate n 0) k = 0 := by
  unfold ld
  split
  · rw [List.getD_eq_getElem?_getD, List.getElem?_replicate]; split <;> rfl
  · rfl
theorem len_st (W : List Int) (k x : Int) : (st W k x).length = W.length := by unfold st; split <;> simp
theorem ld_bump (W : List Int) (k most a : Int) : ld (bumpW W k most) a = if inn W k = true ∧ a = k ∧ ld W k < most then ld W k + 1 else ld W a := by
  unfold bumpW
  cases h : inn W k with
  | true =>
    have e : W.getD k.toNat 0 = ld W k := by unfold ld; rw [h]; rfl
    rw [if_pos rfl, e]
    split
    · rw [if_neg (by omega)]
    · rw [ld_set _ h]
      by_cases hak : a = k
      · rw [if_pos hak, if_pos ⟨rfl, hak, by omega⟩]
      · rw [if_neg hak, if_neg (by simp [hak])]
  | false => simp
theorem len_bump (W : List Int) (k most : Int) : (bumpW W k most).length = W.length := by
  unfold bumpW
  cases inn W k with
  | true => rw [if_pos rfl]; split
            · rfl
            · simp
  | false => rfl

/-- numbers that are small enough -/
structure NB (T : AT) : Prop where
  ow : 0 ≤ T.owner ∧ T.owner < 64
  na : In64 T.na
  nv : In64 T.nv
  seen : 0 ≤ T.seen ∧ T.seen ≤ 9223372036854775807
  was : In64 T.was
  pr : PIn T.reads
  pw : PIn T.writes
  ph : ∀ p ∈ T.holds, In64 p.2
structure WB (W : List Int) : Prop where
  all : ∀ k, In64 (ld W k)
  clk : 0 ≤ ld W 1
theorem in0 : In64 0 := by unfold In64; simp
theorem WB.st {W : List Int} (h : WB W) (k : Int) {x : Int} (hx : In64 x) (h1 : k ≠ 1) : WB (st W k x) :=
  ⟨fun a => by rw [ld_st']; split; exact hx; exact h.all a, by rw [ld_st', if_neg (by omega)]; exact h.clk⟩
theorem NB.fin {T : AT} (h : NB T) (how : Int) : NB (fin T how) := ⟨h.ow, h.na, h.nv, h.seen, h.was, h.pr, h.pw, h.ph⟩
theorem NB.up {T : AT} (h : NB T) (how : Int) : NB (giveUp T how) := by unfold giveUp; split; exact h.fin how; exact ⟨h.ow, h.na, h.nv, h.seen, h.was, h.pr, h.pw, h.ph⟩
theorem getD_ph {l : M} {i : Nat} (h : ∀ p ∈ l, In64 p.2) : In64 (l.getD i (0, 0)).2 := by
  rw [List.getD_eq_getElem?_getD]
  cases e : l[i]? with
  | none => exact in0
  | some p => exact h p (List.mem_of_getElem? e)
theorem freeW_in {v : Int} (h : In64 v) : In64 (freeW v) := by unfold freeW In64 at *; split <;> omega
theorem heldW_in {v : Int} : In64 (heldW v) := by unfold heldW In64; split <;> omega

structure Okk (E : Env) (lo : Int) (d : Nat) (T : AT) (W : List Int) : Prop where
  wf : WF E lo d T
  nb : NB T
  st : In64 T.stamp
  len : (W.length : Int) = E.words
/-- what a program makes is within bounds -/
def RB (E : Env) : Prop := ∀ l, PIn l → In64 (E.run l).1 ∧ PIn (E.run l).2
theorem inn_len {E : Env} {W : List Int} (hl : (W.length : Int) = E.words) {a : Int} (h0 : 0 ≤ a) (h1 : a < E.words) : inn W a = true := by unfold inn; simpa using ⟨h0, by omega⟩

theorem okk_step {E : Env} {lo : Int} {d : Nat} (G : Good E lo d) (R : RB E) (hclk : E.clock ≤ 9223372036854775807) {T : AT} {W : List Int} (h : Okk E lo d T W) (hW : WB W) (hp : T.phase ≠ 10) : Okk E lo d (step E T W).1 (step E T W).2 ∧ WB (step E T W).2 := by
  have o := ok_step G h.wf W hp
  have n := h.nb
  have G3 := G.lo3; have GS := G.str; have GF := G.fits
  have hin1 : inn W 1 = true := inn_len h.len (by omega) (by omega)
  have keep : ∀ T', WF E lo d T' → NB T' → In64 T'.stamp → Okk E lo d T' W ∧ WB W := fun T' a b c => ⟨⟨a, b, c, h.len⟩, hW⟩
  have hs1 : In64 (ld W 1) := hW.all 1
  have hph := h.wf.ph
  revert o
  unfold step
  rw [if_neg hp]
  by_cases c0 : T.phase = 0
  · rw [if_pos c0]
    intro o
    refine keep _ o.wf ?_ ?_
    · unfold sees; simp only; split <;> exact ⟨n.ow, by show In64 2; unfold In64; omega, n.nv, ⟨hW.clk, hs1.2⟩, n.was, n.pr, n.pw, n.ph⟩
    · unfold sees; simp only; split
      · exact hs1
      · exact h.st
  rw [if_neg c0]
  by_cases c1 : T.phase = 1
  · rw [if_pos c1]
    intro o
    refine keep _ o.wf ?_ ?_
    · unfold locked; simp only; split <;> exact ⟨n.ow, n.na, n.nv, n.seen, hW.all _, n.pr, n.pw, n.ph⟩
    · unfold locked; simp only; split <;> exact h.st
  rw [if_neg c1]
  by_cases c2 : T.phase = 2
  · rw [if_pos c2]
    intro o
    exact keep _ o.wf ⟨n.ow, n.na, hW.all _, n.seen, n.was, n.pr, n.pw, n.ph⟩ h.st
  rw [if_neg c2]
  by_cases c3 : T.phase = 3
  · rw [if_pos c3]
    intro o
    refine keep _ o.wf ?_ ?_
    · unfold confirms
      split
      · exact n.fin _
      · have hr : PIn (T.reads ++ [(T.na, T.nv)]) := fun p hp => by
          rcases List.mem_append.1 hp with hp | hp
          · exact n.pr p hp
          · rw [List.mem_singleton.1 hp]; exact ⟨n.na, n.nv⟩
        have ht : PIn (T.reads ++ [(T.na, T.nv)]).tail := fun p hp => hr p (List.mem_of_mem_tail hp)
        unfold goesOn; simp only
        split
        · exact ⟨n.ow, (R _ ht).1, in0, n.seen, n.was, hr, n.pw, n.ph⟩
        · split
          · exact ⟨n.ow, n.na, n.nv, n.seen, n.was, hr, n.pw, n.ph⟩
          · exact ⟨n.ow, n.na, n.nv, n.seen, n.was, hr, (R _ ht).2, n.ph⟩
    · unfold confirms
      split
      · exact h.st
      · unfold goesOn; simp only
        split
        · exact h.st
        · split
          · exact ⟨by have := n.seen; show _ ≤ T.seen; omega, n.seen.2⟩
          · exact h.st
  rw [if_neg c3]
  by_cases c4 : T.phase = 4
  · rw [if_pos c4]
    intro o
    refine keep _ o.wf ?_ ?_
    · unfold looks; simp only; split
      · exact ⟨n.ow, n.na, n.nv, n.seen, hW.all _, n.pr, n.pw, n.ph⟩
      · exact NB.up (T := { T with was := ld W (T.locks.getD T.holds.length 0), phase := 5 }) ⟨n.ow, n.na, n.nv, n.seen, hW.all _, n.pr, n.pw, n.ph⟩ 2
    · unfold looks; simp only; split
      · exact h.st
      · unfold giveUp; split <;> exact h.st
  rw [if_neg c4]
  by_cases c5 : T.phase = 5
  · rw [if_pos c5]
    intro o
    have P := h.wf.part (.inr c5)
    have H := h.wf.held (by omega)
    have kin : T.locks.getD T.holds.length 0 ∈ T.locks := by rw [List.getD_eq_getElem?_getD, List.getElem?_eq_getElem P]; exact List.getElem_mem P
    have k3 := locks_in G (wr_in G H.2.2.2) (T.locks.getD T.holds.length 0) (by rw [← H.1]; exact kin)
    have nh : ∀ p ∈ T.holds ++ [(T.locks.getD T.holds.length 0, T.was)], In64 p.2 := fun p hp => by
      rcases List.mem_append.1 hp with hp | hp
      · exact n.ph p hp
      · rw [List.mem_singleton.1 hp]; exact n.was
    revert o
    unfold grabs; simp only
    split
    · intro o
      exact ⟨⟨o.wf, ⟨n.ow, n.na, n.nv, n.seen, n.was, n.pr, n.pw, nh⟩, h.st, by rw [len_st]; exact h.len⟩, hW.st _ heldW_in (by omega)⟩
    · split
      · intro o
        exact keep _ o.wf ⟨n.ow, n.na, n.nv, n.seen, n.was, n.pr, n.pw, nh⟩ h.st
      · intro o
        exact keep _ o.wf (n.up 2) (by unfold giveUp; split <;> exact h.st)
  rw [if_neg c5]
  by_cases c6 : T.phase = 6
  · rw [if_pos c6]
    have hbv : In64 (bumpV W 1 E.clock) := by
      have e : W.getD (Int.toNat 1) 0 = ld W 1 := by unfold ld; rw [hin1]; rfl
      unfold bumpV
      rw [hin1, if_pos rfl, e]
      split
      · exact hs1
      · have := hW.clk; exact ⟨by omega, by omega⟩
    have hwb : WB (bumpW W 1 E.clock) := by
      refine ⟨fun a => ?_, ?_⟩
      · rw [ld_bump]; split
        · have := hW.clk; exact ⟨by omega, by omega⟩
        · exact hW.all a
      · rw [ld_bump]; have := hW.clk; split <;> omega
    unfold bumps; simp only
    split
    · intro o
      exact ⟨⟨o.wf, NB.up (T := { T with stamp := bumpV W 1 E.clock }) ⟨n.ow, n.na, n.nv, n.seen, n.was, n.pr, n.pw, n.ph⟩ 3, by unfold giveUp; split <;> exact hbv, by rw [len_bump]; exact h.len⟩, hwb⟩
    · intro o
      exact ⟨⟨o.wf, ⟨n.ow, n.na, n.nv, n.seen, n.was, n.pr, n.pw, n.ph⟩, hbv, by rw [len_bump]; exact h.len⟩, hwb⟩
  rw [if_neg c6]
  by_cases c7 : T.phase = 7
  · rw [if_pos c7]
    intro o
    refine keep _ o.wf ?_ ?_
    · unfold verifies; simp only; split
      · split
        · exact ⟨n.ow, n.na, n.nv, n.seen, n.was, n.pr, n.pw, n.ph⟩
        · exact ⟨n.ow, n.na, n.nv, n.seen, n.was, n.pr, n.pw, n.ph⟩
      · exact NB.up (T := { T with at_ := T.at_ + 1 }) ⟨n.ow, n.na, n.nv, n.seen, n.was, n.pr, n.pw, n.ph⟩ 2
    · unfold verifies; simp only; split
      · split <;> exact h.st
      · unfold giveUp; split <;> exact h.st
  rw [if_neg c7]
  by_cases c8 : T.phase = 8
  · rw [if_pos c8]
    intro o
    have K := h.wf.sto c8
    have Wr := h.wf.wrote (by omega)
    have hk : T.at_.toNat < T.writes.length := by omega
    have pin : T.writes.getD T.at_.toNat (0, 0) ∈ T.writes := by rw [List.getD_eq_getElem?_getD, List.getElem?_eq_getElem hk]; exact List.getElem_mem hk
    have p1 := Wr.2.2.1 _ pin
    have p2 := n.pw _ pin
    refine ⟨⟨o.wf, ?_, ?_, by unfold stores; rw [len_st]; exact h.len⟩, hW.st _ p2.2 (by omega)⟩
    · unfold stores; simp only; split <;> exact ⟨n.ow, n.na, n.nv, n.seen, n.was, n.pr, n.pw, n.ph⟩
    · unfold stores; simp only; split <;> exact h.st
  rw [if_neg c8]
  intro o
  have K := h.wf.rel (by omega)
  have H := h.wf.held (by omega)
  have hk : T.at_.toNat < T.holds.length := by omega
  have pin : T.holds.getD T.at_.toNat (0, 0) ∈ T.holds := by rw [List.getD_eq_getElem?_getD, List.getElem?_eq_getElem hk]; exact List.getElem_mem hk
  have k3 : 3 ≤ (T.holds.getD T.at_.toNat (0, 0)).1 := by
    have h1 : (T.holds.getD T.at_.toNat (0, 0)).1 ∈ T.locks := by
      have : (T.holds.getD T.at_.toNat (0, 0)).1 ∈ T.holds.map (·.1) := List.mem_map_of_mem pin
      rw [H.2.2.1] at this
      exact List.mem_of_mem_take this
    exact (locks_in G (wr_in G H.2.2.2) _ (by rw [← H.1]; exact h1)).1
  refine ⟨⟨o.wf, ?_, ?_, by unfold releases; rw [len_st]; exact h.len⟩, hW.st _ ?_ (by omega)⟩
  · unfold releases; simp only; split <;> exact ⟨n.ow, n.na, n.nv, n.seen, n.was, n.pr, n.pw, n.ph⟩
  · unfold releases; simp only; split <;> exact h.st
  · split
    · exact freeW_in h.st
    · exact n.ph _ pin

/-- what stands at first, until it is made -/
structure Low (T : AT) : Prop where
  at0 : T.phase < 7 → T.at_ = 0
  l0 : T.phase < 4 → T.locks = []
  r4 : 4 ≤ T.phase ∧ T.phase ≤ 9 → T.reads ≠ []
theorem giveUp_low {T : AT} {how : Int} (hr : T.reads ≠ []) : Low (giveUp T how) := by
  unfold giveUp; split
  · exact ⟨fun h => absurd (show (10 : Int) < 7 from h) (by omega), fun h => absurd (show (10 : Int) < 4 from h) (by omega), fun h => absurd (show (4 : Int) ≤ 10 ∧ (10 : Int) ≤ 9 from h) (by omega)⟩
  · exact ⟨fun h => absurd (show (9 : Int) < 7 from h) (by omega), fun h => absurd (show (9 : Int) < 4 from h) (by omega), fun _ => hr⟩
theorem fin_low (T : AT) (how : Int) : Low (fin T how) := ⟨fun h => absurd (show (10 : Int) < 7 from h) (by omega), fun h => absurd (show (10 : Int) < 4 from h) (by omega), fun h => absurd (show (4 : Int) ≤ 10 ∧ (10 : Int) ≤ 9 from h) (by omega)⟩
theorem Low.mk' {T : AT} {T' : AT} (h : Low T) (p : Int) (hp : T.phase < 7 ∨ 7 ≤ p) (h1 : T'.phase = p) (ha : T'.at_ = T.at_ ∨ T'.at_ = 0 ∨ 7 ≤ p) (hl : T'.locks = T.locks ∧ (T.phase < 4 ∨ 4 ≤ p) ∨ 4 ≤ p) (hr : T'.reads = T.reads ∧ (4 ≤ T.phase ∧ T.phase ≤ 9 ∨ p < 4) ∨ T'.reads ≠ []) : Low T' := by
  refine ⟨fun h' => ?_, fun h' => ?_, fun h' => ?_⟩
  · rw [h1] at h'
    rcases ha with ha | ha | ha
    · rw [ha]; exact h.at0 (by omega)
    · exact ha
    · omega
  · rw [h1] at h'
    rcases hl with ⟨hl, h2⟩ | hl
    · rw [hl]; exact h.l0 (by omega)
    · omega
  · rw [h1] at h'
    rcases hr with ⟨hr, h2⟩ | hr
    · rw [hr]; exact h.r4 (by omega)
    · exact hr
/-- no step is counted ahead of the seventh phase, .. -/
theorem low_step {E : Env} {T : AT} {W : List Int} (h : Low T) (h7 : 0 ≤ T.phase ∧ T.phase ≤ 10) : Low (step E T W).1 := by
  unfold step
  by_cases c : T.phase = 10
  · rw [if_pos c]; exact h
  rw [if_neg c]
  by_cases c0 : T.phase = 0
  · rw [if_pos c0]; unfold sees; simp only; split
    · exact fin_low _ _
    · exact h.mk' 1 (by omega) rfl (.inl rfl) (.inl ⟨rfl, by omega⟩) (.inl ⟨rfl, by omega⟩)
  rw [if_neg c0]
  by_cases c1 : T.phase = 1
  · rw [if_pos c1]; unfold locked; simp only; split
    · exact h.mk' 2 (by omega) rfl (.inl rfl) (.inl ⟨rfl, by omega⟩) (.inl ⟨rfl, by omega⟩)
    · exact fin_low _ _
  rw [if_neg c1]
  by_cases c2 : T.phase = 2
  · rw [if_pos c2]; unfold loads; exact h.mk' 3 (by omega) rfl (.inl rfl) (.inl ⟨rfl, by omega⟩) (.inl ⟨rfl, by omega⟩)
  rw [if_neg c2]
  by_cases c3 : T.phase = 3
  · rw [if_pos c3]; unfold confirms goesOn; simp only
    split
    · exact fin_low _ _
    · split
      · exact h.mk' 1 (by omega) rfl (.inl rfl) (.inl ⟨rfl, by omega⟩) (.inr (by simp))
      · split
        · exact fin_low _ _
        · exact h.mk' 4 (by omega) rfl (.inl rfl) (.inr (by omega)) (.inr (by simp))
  rw [if_neg c3]
  by_cases c4 : T.phase = 4
  · rw [if_pos c4]; have hr := h.r4 (by omega); unfold looks; simp only; split
    · exact h.mk' 5 (by omega) rfl (.inl rfl) (.inr (by omega)) (.inr hr)
    · exact giveUp_low hr
  rw [if_neg c4]
  by_cases c5 : T.phase = 5
  · rw [if_pos c5]; have hr := h.r4 (by omega); unfold grabs; simp only; split
    · refine h.mk' _ (by omega) rfl (.inl rfl) (.inr ?_) (.inr hr); simp only; split <;> omega
    · split
      · refine h.mk' _ (by omega) rfl (.inl rfl) (.inr ?_) (.inr hr); simp only; split <;> omega
      · exact giveUp_low hr
  rw [if_neg c5]
  by_cases c6 : T.phase = 6
  · rw [if_pos c6]; have hr := h.r4 (by omega); unfold bumps; simp only; split
    · exact giveUp_low hr
    · unfold next; refine h.mk' _ (by omega) rfl (.inr (.inl rfl)) (.inr ?_) (.inr hr); simp only; split <;> omega
  rw [if_neg c6]
  by_cases c7 : T.phase = 7
  · rw [if_pos c7]; have hr := h.r4 (by omega); unfold verifies; simp only; split
    · split
      · unfold next; refine h.mk' _ ?_ rfl (.inr (.inl rfl)) (.inr ?_) (.inr hr) <;> simp only <;> split <;> omega
      · exact h.mk' 7 (by omega) c7 (.inr (.inr (by omega))) (.inr (by omega)) (.inr hr)
    · exact giveUp_low hr
  rw [if_neg c7]
  by_cases c8 : T.phase = 8
  · rw [if_pos c8]; have hr := h.r4 (by omega); unfold stores; simp only; split
    · unfold next; refine h.mk' _ ?_ rfl (.inr (.inl rfl)) (.inr ?_) (.inr hr) <;> simp only <;> split <;> omega
    · exact h.mk' 8 (by omega) c8 (.inr (.inr (by omega))) (.inr (by omega)) (.inr hr)
  rw [if_neg c8]
  have hr := h.r4 (by omega)
  unfold releases; simp only; split
  · exact fin_low _ _
  · exact h.mk' 9 (by omega) (show T.phase = 9 by omega) (.inr (.inr (by omega))) (.inr (by omega)) (.inr hr)

/-- small enough for a step -/
theorem Okk.fit {E : Env} {lo : Int} {d : Nat} (G : Good E lo d) (hd : d ≤ 100) (hs : E.stripes ≤ 64) {T : AT} {W : List Int} (h : Okk E lo d T W) (hL : Low T) (hp : T.phase ≠ 10) : Fit T := by
  have R := reads_len h.wf
  have n := h.nb
  have ph := h.wf.ph
  have HL : T.holds.length ≤ T.locks.length ∧ (T.locks.length : Int) ≤ E.stripes := by
    by_cases c : T.phase < 4
    · have h1 := hL.l0 c
      have h2 : T.holds = [] := by
        by_cases c0 : T.phase = 0
        · exact (h.wf.zero c0).2.2
        · exact (h.wf.needs (by omega)).2.1
      rw [h1, h2]; have := G.str; simp; omega
    · have H := h.wf.held (by omega)
      refine ⟨H.2.1, ?_⟩
      rw [H.1]; exact locks_len G (wr_in G H.2.2.2)
  have HW : 4 ≤ T.phase ∧ T.phase ≤ 8 → T.writes.length ≤ d := fun hh => by
    have Wr := h.wf.wrote (.inl hh)
    have := up_len Wr.2.1 (fun x hx => by obtain ⟨p, hp, rfl⟩ := List.mem_map.1 hx; exact Wr.2.2.1 p hp)
    simpa using this
  have HC : T.phase = 7 → (T.checks.length : Int) ≤ E.stripes := fun hh => by
    have C := h.wf.chk hh
    have := up_len (d := E.stripes.toNat) (lo := 3) C.2.2.1 (fun x hx => by have := C.2.2.2 x hx; have := G.str; omega)
    have := G.str; omega
  refine ⟨ph, n.na, n.nv, n.seen, n.pr, by omega, by omega, by omega, ?_, h.wf.part, fun c => ⟨hL.r4 (by omega), ?_⟩, fun c => (h.wf.chk c).2.1, fun c => (h.wf.sto c).2, fun c => (h.wf.rel c).2⟩
  · by_cases c : T.phase < 7
    · rw [hL.at0 c]; omega
    · by_cases c7 : T.phase = 7
      · have := h.wf.chk c7; have := HC c7; omega
      · by_cases c8 : T.phase = 8
        · have := h.wf.sto c8; have := HW (by omega); omega
        · have := h.wf.rel (by omega); omega
  · have := h.wf.full (.inl (by omega))
    have Wr := h.wf.wrote (.inl (by omega))
    obtain ⟨p, l, hpl⟩ := List.exists_cons_of_ne_nil Wr.1
    have : lock E p.1 ∈ locksOf E T.writes := mem_locksOf.2 ⟨p, by rw [hpl]; simp, rfl⟩
    rw [Wr.2.2.2]; exact List.length_pos_of_mem this

end Att
end Go.Proofs.YthojgahcpkdemaaGreat

/- one attempt, its arena and what its program keeps -/
namespace Go.Proofs.YthojgahcpkdemaaGreat
open Go.RowKit Go.Bas View VIn IMap_
open Go.ChangeShapes
namespace Att

theorem Runs.mono {w : World} {S S' : Nat → Prop} {prog : Value} {run : M → Int × M} (h : Runs w S prog run) (hs : ∀ k, S k → S' k) : Runs w S' prog run := fun w' h' => h w' fun k hk => h' k (hs k hk)

/-- an attempt at block b, at an arena (a, g); what S keeps is neither's -/
structure One (w : World) (S : Nat → Prop) (b a g : Nat) (cf : Lay.Cfg) (at_ : Lay.At) (run : M → Int × M) (T : AT) (W : List Int) (c : Int) : Prop where
  att : ∃ X, IsAtt w b b X T ∧ X.c = cf ∧ X.a = at_ ∧ Runs w S X.prog run ∧ (∀ k, OwnB X k → k ≠ a ∧ k ≠ g) ∧ (∀ k, S k → ¬ OwnB X k)
  ar : Ar w a g W c
  ne : b ≠ a ∧ b ≠ g
  kept : ∀ k, S k → k < w.heap.size ∧ k ≠ b ∧ k ≠ a ∧ k ≠ g

theorem One.row {w : World} {S : Nat → Prop} {b a g : Nat} {cf : Lay.Cfg} {at_ : Lay.At} {run : M → Int × M} {T : AT} {W : List Int} {c : Int} (h : One w S b a g cf at_ run T W c) : ∃ X, Row w b X T := let ⟨X, I, _⟩ := h.att; ⟨X, I.row⟩
theorem One.below {w w' : World} {S : Nat → Prop} {b a g : Nat} {cf : Lay.Cfg} {at_ : Lay.At} {run : M → Int × M} {T : AT} {W : List Int} {c : Int} (h : One w S b a g cf at_ run T W c) (hb : Below w.heap.size w w') : One w' S b a g cf at_ run T W c := by
  obtain ⟨⟨X, I, h1, h2, h3, h4, h5⟩, hA, hne, hk⟩ := h
  exact ⟨⟨X, I.keep (hb.block b I.row.lt) (fun k hk => hb.block k (I.own_lt hk).2), h1, h2, h3.keep (fun k h => hb.block k (hk k h).1), h4, h5⟩, hA.below hb, hne, fun k h => by have := hb.size; have := hk k h; exact ⟨by omega, this.2⟩⟩
/-- .. and whatever befalls the arena alone -/
theorem One.arena {w w' : World} {S : Nat → Prop} {b a g : Nat} {cf : Lay.Cfg} {at_ : Lay.At} {run : M → Int × M} {T : AT} {W W' : List Int} {c c' : Int} (h : One w S b a g cf at_ run T W c) (hA' : Ar w' a g W' c') (hc : Chg (fun k => k = a ∨ k = g) w w') : One w' S b a g cf at_ run T W' c' := by
  obtain ⟨⟨X, I, h1, h2, h3, h4, h5⟩, hA, hne, hk⟩ := h
  have hs := hc.size
  exact ⟨⟨X, I.chg hc (fun h => h.elim hne.1 hne.2) (fun k hk h => h.elim (h4 k hk).1 (h4 k hk).2), h1, h2, h3.keep (fun k h => hc.block k (hk k h).1 (fun hh => hh.elim (hk k h).2.2.1 (hk k h).2.2.2)), h4, h5⟩, hA', hne, fun k h => by have := hk k h; exact ⟨by omega, this.2⟩⟩
/-- of a new attempt -/
theorem One.new {w : World} {S : Nat → Prop} {b a g : Nat} {cf : Lay.Cfg} {at_ : Lay.At} {run : M → Int × M} {W : List Int} {c owner : Int} {prog : Value} (hr : Row w b (newV cf at_ prog) (newT owner)) (hA : Ar w a g W c) (hne : b ≠ a ∧ b ≠ g) (hR : Runs w S prog run) (hS : ∀ k, S k → k < w.heap.size ∧ k ≠ b ∧ k ≠ a ∧ k ≠ g) :
    One w S b a g cf at_ run (newT owner) W c := by
  have no : ∀ k, ¬ OwnB (newV cf at_ prog) k := fun k h => by
    rcases h with e | e | e | e | e <;> simp [newV, Value.ownBlock] at e
  refine ⟨⟨_, ⟨hr, told_nil w b, told_nil w b, tw_nil w b, htold_nil w b, tw_nil w b, fun k e => (no k (.inl e)).elim, fun k e => (no k (.inr (.inr (.inr (.inl e))))).elim, fun k e => (no k e).elim⟩, rfl, rfl, hR, fun k e => (no k e).elim, fun k _ => no k⟩, hA, hne, hS⟩

/-- a step, by a program within its bounds -/
theorem One.step {w : World} {S : Nat → Prop} {b a g : Nat} {cf : Lay.Cfg} {at_ : Lay.At} {run : M → Int × M} {T : AT} {W : List Int} {c : Int} (h : One w S b a g cf at_ run T W c)
    {lo : Int} {d : Nat} (G : Good (env cf at_ run) lo d) (hd : d ≤ 100) (hs : cf.stripes ≤ 64) (hclk : cf.clock ≤ 9223372036854775807) (hml : ∀ l, (run l).2.length ≤ 10000) (hO : Okk (env cf at_ run) lo d T W) (hL : Low T) (hW : WB W) (hc : 0 ≤ c ∧ c < 4611686018427387904) (hp : T.phase ≠ 10) :
    Calls Tryz.prog 16 #[.pointer (some ⟨b, 0, none⟩), .pointer (some ⟨a, 0, none⟩)] w fun e w' => e = .returned (.int .i64 (told (step (env cf at_ run) T W).1)) ∧
      One w' S b a g cf at_ run (step (env cf at_ run) T W).1 (step (env cf at_ run) T W).2 (c + cnt W (acc (env cf at_ run) T)) ∧ Chg (fun k => ¬ S k) w w' := by
  obtain ⟨⟨X, I, rfl, rfl, h3, h4, h5⟩, hA, hne, hk⟩ := h
  have hb := I.row.lt
  refine (stepA_any I hA hc hne h4 (Nat.le_of_lt hb) ⟨G.str, by have := hs; omega⟩ hclk (S := S) (fun k h => ⟨(hk k h).1, h5 k h, (hk k h).2⟩) h3 hml hW.all (hO.fit G hd hs hL hp) hp).mono ?_
  rintro e w' ⟨rfl, ⟨X', I', ho, e1, e2, e3⟩, hA', hC⟩
  have KS : ∀ k, S k → w'.heap[k]? = w.heap[k]? := fun k h => hC.block k (hk k h).1 (fun hh => by
    rcases hh with hh | hh | hh | hh
    · exact h5 k h hh
    · exact (hk k h).2.1 hh
    · exact (hk k h).2.2.1 hh
    · exact (hk k h).2.2.2 hh)
  have hal := hA.lt
  refine ⟨rfl, ⟨⟨X', I', e1, e2, by rw [e3]; exact h3.keep KS, fun k hk' => ?_, fun k hS hk' => ?_⟩, hA', hne, fun k h => ⟨by have := hC.size; have := (hk k h).1; omega, (hk k h).2⟩⟩, hC.mono (fun k _ hh hs => ?_)⟩
  · rcases ho k hk' with h | h
    · exact h4 k h
    · omega
  · rcases ho k hk' with h | h
    · exact h5 k hS h
    · have := (hk k hS).1; omega
  · rcases hh with hh | hh | hh | hh
    · exact h5 k hs hh
    · exact (hk k hs).2.1 hh
    · exact (hk k hs).2.2.1 hh
    · exact (hk k hs).2.2.2 hh

end Att
end Go.Proofs.YthojgahcpkdemaaGreat
