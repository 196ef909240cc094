import Derived.Test.YtfmjcinhjbihoabStk3
import Derived.Test.YtfmjcinhjbihoabDoProg
/- assartlaw12.lives -/
namespace Go.Proofs.Ytfmjcinhjbihoab
open Go.RowKit Go.Bas SorPlain Go.Sor IMap_ VIn VPlain MapI
namespace Stk
open View

/-- make([]int, n) -/
theorem make_ints (n : Nat) (hn : n ≤ 1000000) (w : World) :
    (Instr.makeSlice 22 (.int .i64 (n : Int)) (.int .i64 (n : Int))).run Try.prog w = .ok (.slice (some ⟨w.heap.size, 0, none⟩) n n) (w.alloc (.cells (madeCells #[.int .i64 0] (n * 1)) 3)) := by
  have hinfo : (Try.prog.info? 3).map (fun i => (i.zero, i.size, i.bytes)) = some (some (.int .i64 0), 1, 8) := by kernel_rfl
  obtain ⟨i, hi, hzz⟩ := Option.map_eq_some_iff.1 hinfo
  simp only [Prod.mk.injEq] at hzz
  obtain ⟨hz, hs, hb⟩ := hzz
  have hr := run_make (P := Try.prog) w 22 3 i _ Try.underlying22 hi hz .i64 .i64 n n (by omega) (Int.le_refl _) (by rw [hb]; omega) (by omega)
  simp only [Int.toNat_natCast, hs] at hr
  exact hr
theorem zero_words {w : World} {g n : Nat} (hg : w.heap[g]? = some (.cells (madeCells #[.int .i64 0] n) 3 (0, 0))) (hn : n ≤ 1000000) : Words w w.heap.size (.slice (some ⟨g, 0, none⟩) n n) (List.replicate n 0) := by
  refine ⟨some ⟨g, 0, none⟩, n, by simp, by simp [maxLen]; omega, fun _ => ⟨g, 0, rfl, (Array.getElem?_eq_some_iff.1 hg).1, fun i hi => ?_⟩⟩
  rw [cell_of_row _ _ _ _ _ _ hg, Nat.zero_add]
  have hi' : i < n := by simpa using hi
  simp [madeCells, hi', Nat.mod_one]

/-- the example -/
def liveP : Prog (Bool × Bool × Bool × Int × Bool) :=
  push 1 2 7 >>= fun a => push 1 2 8 >>= fun b => push 1 2 9 >>= fun c => pop 1 2 >>= fun x => pure (a, b, c, x.1, x.2)
theorem live_over : liveP.over (fn [0, 0, 0, 0]) = ((true, true, false, 8, true), (liveP.over (fn [0, 0, 0, 0])).2) ∧ (liveP.over (fn [0, 0, 0, 0])).2 1 = 1 ∧ (liveP.over (fn [0, 0, 0, 0])).2 2 = 7 := ⟨rfl, rfl, rfl⟩
theorem live_within : liveP.Within 4 (fn [0, 0, 0, 0]) := by
  refine ⟨by decide, by decide, by decide, by decide, by decide, by decide, by decide, by decide, by decide, by decide, trivial⟩
theorem live_writes : liveP.Writes 7 :=
  Prog.Writes.bind (k := 5) (push_writes _ _ _) fun _ => Prog.Writes.bind (k := 3) (push_writes _ _ _) fun _ => Prog.Writes.bind (k := 1) (push_writes _ _ _) fun _ => Prog.Writes.bind (k := 0) (pop_writes _ _) fun _ => Prog.Writes.pure _ _

theorem _root_.Go.Bas.One.same {w : World} {c : Nat} {v : Value} {t : TypeId} (h : One w c v t) : w.setCell ⟨c, 0, none⟩ v = w := by
  rw [setCell_row h]
  exact setRow_is h
/-- what the captured variables hold -/
def Caps (ca cb cc cx ck : Nat) (r : Bool × Bool × Bool × Int × Bool) (w : World) : Prop :=
  One w ca (.bool r.1) 4 ∧ One w cb (.bool r.2.1) 4 ∧ One w cc (.bool r.2.2.1) 4 ∧ One w cx (.int .i64 r.2.2.2.1) 3 ∧ One w ck (.bool r.2.2.2.2) 4

theorem VWs.store {A : View.Ask} {P : Nat → Prop} {bv bm : Nat} {st : Bool} {qs : List Int} {m : M} {w : World} (h : VWs A P bv bm st qs m w) {g : Nat} (hg : P g) (hR : ¬ A.R g) (i : Nat) (v : Value) : VWs A P bv bm st qs m (w.setCell ⟨g, i, none⟩ v) :=
  h.cell hg hR (Chg.setCell _ _ _ rfl)

set_option maxRecDepth 100000 in
set_option maxHeartbeats 8000000 in
theorem lives1_does {A : View.Ask} {P C Q : Nat → Prop} {bv bm ca cb cc cx ck : Nat} {w : World} (h : VWs A Q bv bm true [] [] w) (hPQ : ∀ k, P k → Q k) (hCP : ∀ k, C k → P k) (hCR : ∀ k, C k → ¬ A.R k)
    (ha : C ca) (hb : C cb) (hc : C cc) (hx : C cx) (hk : C ck) (hd : ca < cb ∧ cb < cc ∧ cc < ck ∧ ck < cx)
    (r : Caps ca cb cc cx ck (false, false, false, 0, false) w) :
    Calls Try.prog 21 #[.pointer (some ⟨bv, 0, none⟩), .pointer (some ⟨ca, 0, none⟩), .pointer (some ⟨cb, 0, none⟩), .pointer (some ⟨cc, 0, none⟩), .pointer (some ⟨cx, 0, none⟩), .pointer (some ⟨ck, 0, none⟩)] w
      (DoesL A P C Q bv bm liveP (Caps ca cb cc cx ck) w) := by
  obtain ⟨oa, ob, oc, ox, ok⟩ := r
  obtain ⟨d1, d2, d3, d4⟩ := hd
  have CQ : Hid (∀ k, C k → Q k) := fun k hk => hPQ k (hCP k hk)
  have CR := Lib.hid hCR; have CP := Lib.hid hCP
  have HA := Lib.hid ha; have HB := Lib.hid hb; have HC := Lib.hid hc; have HX := Lib.hid hx; have HK := Lib.hid hk
  have H := Lib.hid h
  have L2 : Lies 1 2 := .inr (by omega)
  have L := Lib.hid L2
  have OA := Lib.hid oa; have OB := Lib.hid ob; have OC := Lib.hid oc; have OX := Lib.hid ox; have OK := Lib.hid ok
  have P1 := Lib.hid (Push_does h (by simp) L2 7 (by unfold In64; omega))
  have HP : Hid (liveP = (push 1 2 7 >>= fun a => push 1 2 8 >>= fun b => push 1 2 9 >>= fun c => pop 1 2 >>= fun x => pure (a, b, c, x.1, x.2))) := rfl
  have fa := oa.free; have ea := oa.cell
  clear ha hb hc hx hk h hPQ hCP hCR oa ob oc ox ok L2
  go_enter Try.func21, Try.ntmps21
  go_wp2_with fail
  refine P1.out.mono ?_
  rintro e w1 (⟨x, m1, q1, e1, rfl, v1, k1⟩ | ⟨ra, _, m1, q1, e1, rfl, rfl, v1, k1⟩)
  · exact ⟨rfl, .inl ⟨x, m1, q1, by rw [HP.out]; exact Prog.run_inl e1, rfl, v1, k1.mono (fun k _ h => .inl h)⟩⟩
  have OA1 : Hid (One w1 ca (.bool false) 4) := Kept.row k1 OA.out (CQ.out _ HA.out)
  have OB1 : Hid (One w1 cb (.bool false) 4) := Kept.row k1 OB.out (CQ.out _ HB.out)
  have OC1 : Hid (One w1 cc (.bool false) 4) := Kept.row k1 OC.out (CQ.out _ HC.out)
  have OX1 : Hid (One w1 cx (.int .i64 0) 3) := Kept.row k1 OX.out (CQ.out _ HX.out)
  have OK1 : Hid (One w1 ck (.bool false) 4) := Kept.row k1 OK.out (CQ.out _ HK.out)
  have l1 : m1.length ≤ 2 := by have := len_le (push_writes _ _ _) e1; simpa using this
  have HR1 : Hid (liveP.run A.f [] [] = (push 1 2 8 >>= fun b => push 1 2 9 >>= fun c => pop 1 2 >>= fun x => pure (ra, b, c, x.1, x.2) : Prog _).run A.f m1 q1) := by rw [HP.out]; exact Prog.run_inr e1
  have g1 := OA1.out.free; have c1 := OA1.out.cell
  have v1' := VWs.store v1 (CQ.out _ HA.out) (CR.out _ HA.out) 0 (.bool ra)
  have K1 : Hid (Chg (fun k => ¬ Q k ∨ C k) w (w1.setCell ⟨ca, 0, none⟩ (.bool ra))) := (k1.mono (fun k _ h => .inl h)).trans (Chg.setCell _ _ _ (.inr HA.out))
  have OA2 : Hid (One (w1.setCell ⟨ca, 0, none⟩ (.bool ra)) ca (.bool ra) 4) := OA1.out.set _
  have OB2 : Hid (One (w1.setCell ⟨ca, 0, none⟩ (.bool ra)) cb (.bool false) 4) := OB1.out.other (by simp; omega) _
  have OC2 : Hid (One (w1.setCell ⟨ca, 0, none⟩ (.bool ra)) cc (.bool false) 4) := OC1.out.other (by simp; omega) _
  have OX2 : Hid (One (w1.setCell ⟨ca, 0, none⟩ (.bool ra)) cx (.int .i64 0) 3) := OX1.out.other (by simp; omega) _
  have OK2 : Hid (One (w1.setCell ⟨ca, 0, none⟩ (.bool ra)) ck (.bool false) 4) := OK1.out.other (by simp; omega) _
  have P2 := Lib.hid (Push_does v1' (by omega) L.out 8 (by unfold In64; omega))
  clear e1 v1 k1 v1' OA1 OB1 OC1 OX1 OK1 OA OB OC OX OK P1 HP fa ea H
  go_upto_region 1 with fail
  generalize w1.setCell ⟨ca, 0, none⟩ (.bool ra) = w1' at *
  clear g1 c1
  go_wp2_with fail
  refine P2.out.mono ?_
  rintro e w2 (⟨x, m2, q2, e2, rfl, v2, k2⟩ | ⟨rb, _, m2, q2, e2, rfl, rfl, v2, k2⟩)
  · exact ⟨rfl, .inl ⟨x, m2, q2, HR1.out.trans (Prog.run_inl e2), rfl, v2, K1.out.trans (k2.mono (fun k _ h => .inl h))⟩⟩
  have OA3 : Hid (One w2 ca (.bool ra) 4) := Kept.row k2 OA2.out (CQ.out _ HA.out)
  have OB3 : Hid (One w2 cb (.bool false) 4) := Kept.row k2 OB2.out (CQ.out _ HB.out)
  have OC3 : Hid (One w2 cc (.bool false) 4) := Kept.row k2 OC2.out (CQ.out _ HC.out)
  have OX3 : Hid (One w2 cx (.int .i64 0) 3) := Kept.row k2 OX2.out (CQ.out _ HX.out)
  have OK3 : Hid (One w2 ck (.bool false) 4) := Kept.row k2 OK2.out (CQ.out _ HK.out)
  have l2 : m2.length ≤ 4 := by have := len_le (push_writes _ _ _) e2; omega
  have HR2 : Hid (liveP.run A.f [] [] = (push 1 2 9 >>= fun c => pop 1 2 >>= fun x => pure (ra, rb, c, x.1, x.2) : Prog _).run A.f m2 q2) := HR1.out.trans (Prog.run_inr e2)
  have g2 := OB3.out.free; have c2 := OB3.out.cell
  have v2' := VWs.store v2 (CQ.out _ HB.out) (CR.out _ HB.out) 0 (.bool rb)
  have K2 : Hid (Chg (fun k => ¬ Q k ∨ C k) w (w2.setCell ⟨cb, 0, none⟩ (.bool rb))) := (K1.out.trans (k2.mono (fun k _ h => .inl h))).trans (Chg.setCell _ _ _ (.inr HB.out))
  have OA4 : Hid (One (w2.setCell ⟨cb, 0, none⟩ (.bool rb)) ca (.bool ra) 4) := OA3.out.other (by simp; omega) _
  have OB4 : Hid (One (w2.setCell ⟨cb, 0, none⟩ (.bool rb)) cb (.bool rb) 4) := OB3.out.set _
  have OC4 : Hid (One (w2.setCell ⟨cb, 0, none⟩ (.bool rb)) cc (.bool false) 4) := OC3.out.other (by simp; omega) _
  have OX4 : Hid (One (w2.setCell ⟨cb, 0, none⟩ (.bool rb)) cx (.int .i64 0) 3) := OX3.out.other (by simp; omega) _
  have OK4 : Hid (One (w2.setCell ⟨cb, 0, none⟩ (.bool rb)) ck (.bool false) 4) := OK3.out.other (by simp; omega) _
  have P3 := Lib.hid (Push_does v2' (by omega) L.out 9 (by unfold In64; omega))
  clear e2 v2 k2 v2' OA3 OB3 OC3 OX3 OK3 OA2 OB2 OC2 OX2 OK2 P2 HR1 K1
  go_upto_region 2 with fail
  generalize w2.setCell ⟨cb, 0, none⟩ (.bool rb) = w2' at *
  clear g2 c2
  go_wp2_with fail
  refine P3.out.mono ?_
  rintro e w3 (⟨x, m3, q3, e3, rfl, v3, k3⟩ | ⟨rc, _, m3, q3, e3, rfl, rfl, v3, k3⟩)
  · exact ⟨rfl, .inl ⟨x, m3, q3, HR2.out.trans (Prog.run_inl e3), rfl, v3, K2.out.trans (k3.mono (fun k _ h => .inl h))⟩⟩
  have OA5 : Hid (One w3 ca (.bool ra) 4) := Kept.row k3 OA4.out (CQ.out _ HA.out)
  have OB5 : Hid (One w3 cb (.bool rb) 4) := Kept.row k3 OB4.out (CQ.out _ HB.out)
  have OC5 : Hid (One w3 cc (.bool false) 4) := Kept.row k3 OC4.out (CQ.out _ HC.out)
  have OX5 : Hid (One w3 cx (.int .i64 0) 3) := Kept.row k3 OX4.out (CQ.out _ HX.out)
  have OK5 : Hid (One w3 ck (.bool false) 4) := Kept.row k3 OK4.out (CQ.out _ HK.out)
  have l3 : m3.length ≤ 6 := by have := len_le (push_writes _ _ _) e3; omega
  have HR3 : Hid (liveP.run A.f [] [] = (pop 1 2 >>= fun x => pure (ra, rb, rc, x.1, x.2) : Prog _).run A.f m3 q3) := HR2.out.trans (Prog.run_inr e3)
  have g3 := OC5.out.free; have c3 := OC5.out.cell
  have v3' := VWs.store v3 (CQ.out _ HC.out) (CR.out _ HC.out) 0 (.bool rc)
  have K3 : Hid (Chg (fun k => ¬ Q k ∨ C k) w (w3.setCell ⟨cc, 0, none⟩ (.bool rc))) := (K2.out.trans (k3.mono (fun k _ h => .inl h))).trans (Chg.setCell _ _ _ (.inr HC.out))
  have OA6 : Hid (One (w3.setCell ⟨cc, 0, none⟩ (.bool rc)) ca (.bool ra) 4) := OA5.out.other (by simp; omega) _
  have OB6 : Hid (One (w3.setCell ⟨cc, 0, none⟩ (.bool rc)) cb (.bool rb) 4) := OB5.out.other (by simp; omega) _
  have OC6 : Hid (One (w3.setCell ⟨cc, 0, none⟩ (.bool rc)) cc (.bool rc) 4) := OC5.out.set _
  have OX6 : Hid (One (w3.setCell ⟨cc, 0, none⟩ (.bool rc)) cx (.int .i64 0) 3) := OX5.out.other (by simp; omega) _
  have OK6 : Hid (One (w3.setCell ⟨cc, 0, none⟩ (.bool rc)) ck (.bool false) 4) := OK5.out.other (by simp; omega) _
  have P4 := Lib.hid (Pop_does v3' (by omega) L.out)
  clear e3 v3 k3 v3' OA5 OB5 OC5 OX5 OK5 OA4 OB4 OC4 OX4 OK4 P3 HR2 K2
  go_upto_region 3 with fail
  generalize w3.setCell ⟨cc, 0, none⟩ (.bool rc) = w3' at *
  clear g3 c3
  go_wp2_with fail
  refine P4.out.mono ?_
  rintro e w4 (⟨x, m4, q4, e4, rfl, v4, k4⟩ | ⟨⟨rx, rk⟩, _, m4, q4, e4, rfl, ⟨rfl, i4⟩, v4, k4⟩)
  · exact ⟨rfl, .inl ⟨x, m4, q4, HR3.out.trans (Prog.run_inl e4), rfl, v4, K3.out.trans (k4.mono (fun k _ h => .inl h))⟩⟩
  have OA7 : Hid (One w4 ca (.bool ra) 4) := Kept.row k4 OA6.out (CQ.out _ HA.out)
  have OB7 : Hid (One w4 cb (.bool rb) 4) := Kept.row k4 OB6.out (CQ.out _ HB.out)
  have OC7 : Hid (One w4 cc (.bool rc) 4) := Kept.row k4 OC6.out (CQ.out _ HC.out)
  have OX7 : Hid (One w4 cx (.int .i64 0) 3) := Kept.row k4 OX6.out (CQ.out _ HX.out)
  have OK7 : Hid (One w4 ck (.bool false) 4) := Kept.row k4 OK6.out (CQ.out _ HK.out)
  have HR4 : Hid (liveP.run A.f [] [] = (.inr (ra, rb, rc, rx, rk), m4, q4)) := HR3.out.trans (Prog.run_inr e4)
  have g4 := OX7.out.free; have c4 := OX7.out.cell
  have g5 := OK7.out.free; have c5 := OK7.out.cell
  have OKx : One (w4.setCell ⟨cx, 0, none⟩ (.int .i64 rx)) ck (.bool false) 4 := OK7.out.other (by simp; omega) _
  have g6 := OKx.free
  have FIN : Hid (DoesL A P C Q bv bm liveP (Caps ca cb cc cx ck) w (.returned (.tuple #[])) ((w4.setCell ⟨cx, 0, none⟩ (.int .i64 rx)).setCell ⟨ck, 0, none⟩ (.bool rk))) := by
    refine .inr ⟨_, fun _ => False, m4, q4, HR4.out, rfl, fun _ h => h.elim, VWs.less (VWs.store (VWs.store v4 (CQ.out _ HX.out) (CR.out _ HX.out) 0 _) (CQ.out _ HK.out) (CR.out _ HK.out) 0 _) (fun k hk => hk.elim id False.elim),
      ((K3.out.trans (k4.mono (fun k _ h => .inl h))).trans (Chg.setCell _ _ _ (.inr HX.out))).trans (Chg.setCell _ _ _ (.inr HK.out)), fun w5 h5 => ?_⟩
    have hp : ∀ {c : Nat} {v : Value} {t : TypeId}, C c → One ((w4.setCell ⟨cx, 0, none⟩ (.int .i64 rx)).setCell ⟨ck, 0, none⟩ (.bool rk)) c v t → One w5 c v t := fun hc ho => ho.kept (h5 _ (.inl (CP.out _ hc)))
    exact ⟨hp HA.out ((OA7.out.other (by simp; omega) _).other (by simp; omega) _), hp HB.out ((OB7.out.other (by simp; omega) _).other (by simp; omega) _), hp HC.out ((OC7.out.other (by simp; omega) _).other (by simp; omega) _),
      hp HX.out ((OX7.out.set _).other (by simp; omega) _), hp HK.out (OKx.set _)⟩
  clear e4 v4 k4 OA7 OB7 OC7 OX7 OK7 P4 HR3 K3 OKx OA6 OB6 OC6 OX6 OK6
  go_wp2
  go_end0
  exact FIN.out


set_option maxRecDepth 100000 in
set_option maxHeartbeats 8000000 in
theorem lives_any (w : World) : Calls Try.prog 12 #[] w fun e w' => e = .returned (.bool true) ∧ Below w.heap.size w w' := by
  have hmf : ∀ (fn : Fn) (first cap : Array Value) (w : World), (Instr.makeFunc fn first cap).run Try.prog w = .ok (.func fn first cap) w := fun _ _ _ _ => rfl
  obtain ⟨g, hg⟩ : ∃ g, w.heap.size = g := ⟨_, rfl⟩
  obtain ⟨w1, hw1⟩ : ∃ w1, ((((w.alloc (.cells #[.bool false] 4)).alloc (.cells #[.bool false] 4)).alloc (.cells #[.bool false] 4)).alloc (.cells #[.bool false] 4)).alloc (.cells #[.int .i64 0] 3) = w1 := ⟨_, rfl⟩
  have s1 : w1.heap.size = g + 5 := by rw [← hw1, ← hg]; simp
  have C1 : Hid (Caps g (g + 1) (g + 1 + 1) (g + 1 + 1 + 1 + 1) (g + 1 + 1 + 1) (false, false, false, 0, false) w1) := by
    rw [← hw1, ← hg]
    refine ⟨((((One.new w _ _).alloc _).alloc _).alloc _).alloc _, ((((by simpa using One.new (w.alloc _) _ _ : One _ (w.heap.size + 1) _ _)).alloc _).alloc _).alloc _, (((by simpa using One.new ((w.alloc _).alloc _) _ _ : One _ (w.heap.size + 2) _ _)).alloc _).alloc _, (by simpa using One.new ((((w.alloc _).alloc _).alloc _).alloc _) _ _ : One _ (w.heap.size + 4) _ _), ((by simpa using One.new (((w.alloc _).alloc _).alloc _) _ _ : One _ (w.heap.size + 3) _ _)).alloc _⟩
  have o5 : One w1 (g + 1 + 1 + 1 + 1) (.int .i64 0) 3 := C1.out.2.2.2.1
  have f5 := o5.free; have x5 := o5.cell; have z5 := o5.same
  clear o5
  have B1 : Hid (Below g w w1) := by rw [← hw1, ← hg]; exact (((((Below.refl _ _).alloc (Nat.le_refl _) _).alloc (by simp) _).alloc (by simp; omega) _).alloc (by simp; omega) _).alloc (by simp; omega) _
  obtain ⟨w2, hw2⟩ : ∃ w2, w1.alloc (.cells (madeCells #[.int .i64 0] (4 * 1)) 3) = w2 := ⟨_, rfl⟩
  have hmk : (Instr.makeSlice 22 (.int .i64 4) (.int .i64 4)).run Try.prog w1 = .ok (.slice (some ⟨w1.heap.size, 0, none⟩) 4 4) (w1.alloc (.cells (madeCells #[.int .i64 0] (4 * 1)) 3)) := make_ints 4 (by omega) w1
  rw [hw2, s1] at hmk
  have r2 : w2.heap[g + 5]? = some (.cells (madeCells #[.int .i64 0] 4) 3 (0, 0)) := by rw [← hw2, ← s1]; exact new_row _ _ _
  have s2 : w2.heap.size = g + 6 := by rw [← hw2]; simp; omega
  have B2 : Hid (Below (g + 5) w1 w2) := by rw [← hw2, Hid, ← s1]; exact (Below.refl _ _).alloc (Nat.le_refl _) _
  have DP : Hid (Calls Try.prog 7 #[.slice (some ⟨g + 5, 0, none⟩) 4 4, .func (.func 21) #[] #[.pointer (some ⟨g, 0, none⟩), .pointer (some ⟨g + 1, 0, none⟩), .pointer (some ⟨g + 1 + 1, 0, none⟩), .pointer (some ⟨g + 1 + 1 + 1 + 1, 0, none⟩), .pointer (some ⟨g + 1 + 1 + 1, 0, none⟩)]] w2
      (ProgOut (fun k => g ≤ k ∧ k < g + 5) [0, 0, 0, 0] liveP (Caps g (g + 1) (g + 1 + 1) (g + 1 + 1 + 1 + 1) (g + 1 + 1 + 1)) w2)) := by
    refine do_prog (zero_words r2 (by omega)) (fun p hp => by
        have : p = 0 := by simpa using hp
        subst this; unfold In64; omega) (by simp) _ _ liveP live_writes (by omega) live_within (callFunc_run Try.func21 (by kernel_rfl) (by kernel_rfl)) _ (fun k hk => by omega) _ ?_
    intro A hAf hR bv bm Q w' hQ hb hv
    refine lives1_does hv (fun k hk => hQ k hk) (fun k hk => by omega) (fun k hk hr => ?_) ⟨by omega, by omega⟩ ⟨by omega, by omega⟩ ⟨by omega, by omega⟩ ⟨by omega, by omega⟩ ⟨by omega, by omega⟩ ⟨by omega, by omega, by omega, by omega⟩ ?_
    · obtain ⟨b, off, n, c, e, rfl⟩ := hR k hr
      injection e with e _ _
      injection e with e
      injection e with e _ _
      omega
    · have hbl : ∀ {c : Nat} {v : Value} {t : TypeId}, c < g + 5 → One w1 c v t → One w' c v t := fun hc ho => (ho.kept (B2.out.block _ hc)).kept (hb.block _ (by omega))
      obtain ⟨oa, ob, oc, ox, ok⟩ := C1.out
      exact ⟨hbl (by omega) oa, hbl (by omega) ob, hbl (by omega) oc, hbl (by omega) ox, hbl (by omega) ok⟩
  rw [hg]
  clear r2
  go_enter Try.func12, Try.ntmps12
  go_wp2_with fail
  refine DP.out.mono ?_
  rintro e w4 ⟨A4, c4, v4, ws, nd, rfl, hlen, ht, hq, hat, hch, hph⟩
  obtain ⟨A5, c5, rfl, _⟩ := hq
  have hl4 : ws.length = 4 := hlen
  rw [show ([0, 0, 0, 0] : List Int).length = 4 from rfl] at ht ⊢
  have HC := Lib.hid (hph w4 (fun _ _ => rfl))
  rw [live_over.1] at HC
  have h1 := hat 1 (by simp)
  have h2 := hat 2 (by simp)
  rw [show ((1 : Nat) : Int) = 1 from rfl, live_over.2.1] at h1
  rw [show ((2 : Nat) : Int) = 2 from rfl, live_over.2.2] at h2
  have B4 : Hid (Below g w2 w4) := hch.below (by omega) (fun k hk => by omega)
  have HT := Lib.hid ht.words
  obtain ⟨b4, o4, e4, _, x4⟩ := word_row HT.out (k := 1) (by omega)
  obtain ⟨b5, o5, e5, _, x5⟩ := word_row HT.out (k := 2) (by omega)
  subst e4
  injection e5 with e5
  injection e5 with e5 e6 _
  subst e5 e6
  have y1 : ws[1] = 1 := by rw [← h1]; simp [List.getD_eq_getElem?_getD, hl4]
  have y2 : ws[2] = 7 := by rw [← h2]; simp [List.getD_eq_getElem?_getD, hl4]
  rw [y1] at x4
  rw [y2] at x5
  have z1 := HC.out.1.cell
  have z2 := HC.out.2.1.cell
  have z3 := HC.out.2.2.1.cell
  have z4 := HC.out.2.2.2.1.cell
  have z5 := HC.out.2.2.2.2.cell
  clear hat hch hph ht hl4 hlen y1 y2 h1 h2 DP
  go_wp2
  go_ret
  exact ⟨rfl, (B1.out.trans (B2.out.mono (by omega))).trans B4.out⟩

end Stk
end Go.Proofs.Ytfmjcinhjbihoab
