import Derived.Test.YtfmjcinhjbihoabStkLives
import Derived.Test.YtfmjcinhjbihoabStkLastP
import Derived.Test.YtfmjcinhjbihoabTW
import Derived.Test.YtfmjcinhjbihoabBase4
import Derived.StillTailTactics
import Derived.Deep.Cut
import Derived.Deep.DeepCutAuto
import Derived.Deep.RegionHeld3
/- assartlaw12.StackLast: the program -/
namespace Go.Proofs.Ytfmjcinhjbihoab
open Go.RowKit Go.Bas SorPlain Go.Sor IMap_ VIn VPlain MapI
namespace Stk
open View

/-- what is captured -/
structure Lst (ck cr cl cm B : Nat) (sl : Value) (l : List Int) (most : Int) (C : Nat → Prop) (w : World) : Prop where
  ol : One w cl sl 22
  om : One w cm (.int .i64 most) 3
  ws : Words w B sl l
  nl : ¬ C cl
  nm : ¬ C cm
  low : ∀ k, C k → B ≤ k
theorem Lst.chg {ck cr cl cm B : Nat} {sl : Value} {l : List Int} {most : Int} {C P Q : Nat → Prop} {w w' : World} (h : Lst ck cr cl cm B sl l most C w) (hc : Chg (fun k => ¬ Q k ∨ C k) w w') (hPQ : ∀ k, P k → Q k) (hl : P cl) (hm : P cm) (hB : ∀ k, k < B → P k) : Lst ck cr cl cm B sl l most C w' :=
  ⟨h.ol.chg hc (fun e => e.elim (fun e => e (hPQ _ hl)) h.nl), h.om.chg hc (fun e => e.elim (fun e => e (hPQ _ hm)) h.nm), h.ws.keep (fun k hk hl => hc.block k hl (fun e => e.elim (fun e => e (hPQ _ (hB k hk))) (fun e => by have := h.low k e; omega))), h.nl, h.nm, h.low⟩

set_option maxRecDepth 100000 in
set_option maxHeartbeats 16000000 in
theorem last1_does {A : View.Ask} {P C Q : Nat → Prop} {bv bm ck cr cl cm B : Nat} {w : World} {sl : Value} {l : List Int} {most : Int} (h : VWs A Q bv bm true [] [] w) (hPQ : ∀ k, P k → Q k) (hCP : ∀ k, C k → P k) (hCR : ∀ k, C k → ¬ A.R k)
    (hk : C ck) (hr : C cr) (hne : ck ≠ cr) (hl : P cl) (hm : P cm) (hB : ∀ k, k < B → P k) (L : Lst ck cr cl cm B sl l most C w) (hln : l.length ≤ 60) (hli : WIn l) (hmost : 0 ≤ most ∧ most ≤ 60) {μ : Int → Int} (hAf : ∀ a, 0 ≤ a → a < most + 2 → A.f a = some (μ a)) (hμ : μ 1 = 0)
    (k0 : Int) (r0 : Bool) (ok : One w ck (.int .i64 k0) 3) (or_ : One w cr (.bool r0) 4) :
    Calls Try.prog 13 #[.pointer (some ⟨bv, 0, none⟩), .pointer (some ⟨ck, 0, none⟩), .pointer (some ⟨cr, 0, none⟩), .pointer (some ⟨cl, 0, none⟩), .pointer (some ⟨cm, 0, none⟩)] w
      (DoesL A P C Q bv bm (lastP most l) (fun b w => One w cr (.bool b) 4) w) := by
  obtain ⟨As, cs, rfl, ms, _⟩ := id L.ws
  obtain ⟨n, hn⟩ : ∃ n, l.length = n := ⟨_, rfl⟩
  have HN := Lib.hid hn
  rw [hn] at L ms
  have ms : n ≤ 9223372036854775807 := ms
  have hn60 : n ≤ 60 := by omega
  obtain ⟨hm0, hm1⟩ := hmost
  have HAF := Lib.hid hAf
  clear hAf
  have LI : Hid (Lies 1 most) := .inr (by omega)
  have CQ : Hid (∀ k, C k → Q k) := fun k hk => hPQ k (hCP k hk)
  have CR := Lib.hid hCR; have CP := Lib.hid hCP; have PQ := Lib.hid hPQ
  have HK := Lib.hid hk; have HR := Lib.hid hr; have HL := Lib.hid hl; have HM := Lib.hid hm; have HB := Lib.hid hB; have HLI := Lib.hid hli
  have LC : Hid (∀ w', Chg (fun k => ¬ Q k ∨ C k) w w' → Lst ck cr cl cm B (.slice As n cs) l most C w') := fun w' hc => L.chg hc hPQ hl hm hB
  have f1 := ok.free; have f2 := or_.free; have x1 := ok.cell; have x2 := or_.cell
  have OK1 : Hid (One ((w.setCell ⟨ck, 0, none⟩ (.int .i64 0)).setCell ⟨cr, 0, none⟩ (.bool true)) ck (.int .i64 0) 3) := (ok.set _).other (by simpa using hne) _
  have OR0 := (or_.other (a := ⟨ck, 0, none⟩) (by simpa using hne.symm) (.int .i64 0))
  have f3 := OR0.free; have x3 := OR0.cell
  have OR1 : Hid (One ((w.setCell ⟨ck, 0, none⟩ (.int .i64 0)).setCell ⟨cr, 0, none⟩ (.bool true)) cr (.bool true) 4) := OR0.set _
  have V1 : Hid (VWs A Q bv bm true [] [] ((w.setCell ⟨ck, 0, none⟩ (.int .i64 0)).setCell ⟨cr, 0, none⟩ (.bool true))) := VWs.store (VWs.store h (hPQ _ (hCP _ hk)) (hCR _ hk) 0 _) (hPQ _ (hCP _ hr)) (hCR _ hr) 0 _
  have K1 : Hid (Chg (fun k => ¬ Q k ∨ C k) w ((w.setCell ⟨ck, 0, none⟩ (.int .i64 0)).setCell ⟨cr, 0, none⟩ (.bool true))) := (Chg.setCell _ _ _ (.inr hk)).trans (Chg.setCell _ _ _ (.inr hr))
  have HP : Hid ((lastP most l).run A.f [] [] = (pushes most (l.drop 0) 0 0 true >>= fun r => midP most l r.1 r.2 >>= fun right => pops most l r.1 right >>= fun right => pop 1 most >>= fun x => pure (right && !x.2) : Prog Bool).run A.f [] []) := rfl
  have HNE := Lib.hid hne
  have HF0 : Hid (HasF most l 0 (ov μ [])) := by rw [ov_nil]; exact ⟨by simpa using hμ, by simpa using hm0, fun j hj => by omega⟩
  clear h hPQ hCP hCR hk hr hl hm hB hli L ok or_ OR0 hn hne
  go_enter Try.func13, Try.ntmps13
  go_wp2
  clear f1 f2 f3 x1 x2 x3
  go_loopw [6, 7] (fun u6 u7 wr => ∃ (i k : Nat) (m' : M) (qs' : List Int), i ≤ n ∧ k ≤ i ∧ u6 = .int .i64 i ∧ Hid (One wr ck (.int .i64 k) 3) ∧ Hid (One wr cr (.bool true) 4) ∧ Hid (VWs A Q bv bm true qs' m' wr) ∧ Hid (Chg (fun k => ¬ Q k ∨ C k) w wr) ∧
    Hid ((lastP most l).run A.f [] [] = (pushes most (l.drop i) i k true >>= fun r => midP most l r.1 r.2 >>= fun right => pops most l r.1 right >>= fun right => pop 1 most >>= fun x => pure (right && !x.2) : Prog Bool).run A.f m' qs') ∧ m'.length ≤ 2 * i ∧
    Hid (Rising m') ∧ Hid (HasF most l k (ov μ m')) ∧ Hid (((i : Int) ≤ most → k = i) ∧ (most < (i : Int) → (k : Int) = most))) (fun u6 _ _ => n - (intOf u6).toNat)
  case atStart => exact ⟨0, 0, [], [], by omega, by omega, rfl, OK1, OR1, V1, K1, HP, by simp, (by simp [Rising, keys] : Rising ([] : M)), HF0, ⟨fun _ => rfl, fun h => by omega⟩⟩
  case round =>
    clear OK1 OR1 V1 K1 HP HF0
    obtain ⟨i, k, m', qs', hi, hki, rfl, OK, OR, HV, HC, HR', hml, HRI, HF, HIK⟩ := hrel
    have LL := Lib.hid (LC.out _ HC.out)
    have y1 := LL.out.ol.cell; have y2 := LL.out.om.cell
    by_cases hlt : i < n
    · have hil : i < l.length := by rw [HN.out]; exact hlt
      obtain ⟨b, off, rfl, hbB, hcell⟩ := word_row LL.out.ws hil
      have hin := HLI.out _ (List.getElem_mem hil)
      have hdr : l.drop i = l[i] :: l.drop (i + 1) := List.drop_eq_getElem_cons hil
      have hgx : l.getD i 0 = l[i] := by simp [hil]
      have hph := push_has HF.out HIK.out.1 HIK.out.2
      rw [hgx] at hph
      obtain ⟨x, hx⟩ : ∃ x, l[i] = x := ⟨_, rfl⟩
      rw [hx] at hcell hin hdr hph
      have HPH := Lib.hid hph
      have HR2 : Hid ((lastP most l).run A.f [] [] = (push 1 most x >>= fun ok => pushes most (l.drop (i + 1)) (i + 1) (if ok then k + 1 else k) (true && (ok == decide ((i : Int) < most))) >>= fun r => midP most l r.1 r.2 >>= fun right => pops most l r.1 right >>= fun right => pop 1 most >>= fun x => pure (right && !x.2) : Prog Bool).run A.f m' qs') := by
        rw [Hid, HR'.out, hdr]
        show ((push 1 most x >>= fun ok => _ : Prog _) >>= _ : Prog Bool).run A.f m' qs' = _
        rw [Prog.bind_assoc]
      have PU : Hid (Calls Try.prog 10 #[.pointer (some ⟨bv, 0, none⟩), .int .i64 1, .int .i64 most, .int .i64 x] wr.drew fun e w' => ∃ m2 q2, (push 1 most x).run A.f m' qs' = (.inr ((push 1 most x).over (ov μ m')).1, m2, q2) ∧ e = .returned (.bool ((push 1 most x).over (ov μ m')).1) ∧ VWs A Q bv bm true q2 m2 w' ∧ Kept Q wr.drew w' ∧ ov μ m2 = ((push 1 most x).over (ov μ m')).2 ∧ Rising m2) := by
        refine (Push_does (HV.out.new ((Below.refl _ _).drew)) (by omega) LI.out x hin).mono fun e w' hh => ?_
        obtain ⟨v, m2, q2, t1, t2, t3, t4, t5, t6, t7⟩ := hh.total HAF.out HRI.out (push_within (.inr (by omega)) x _)
        have t3 : v = _ := t3
        subst t3
        exact ⟨m2, q2, t1, t2, t4, t5, t6, t7⟩
      have d1 : wr.drew.cell? ⟨cm, 0, none⟩ = some (.int .i64 most) := y2
      have d2 : wr.drew.cell? ⟨b, off + i, none⟩ = some (.int .i64 x) := hcell
      have d3 : wr.drew.cell? ⟨cl, 0, none⟩ = some (.slice (some ⟨b, off, none⟩) n cs) := y1
      clear hx hdr hin hil HR' hcell hgx hph
      go_upto_region 5 with fail
      go_still_tail 6, (by kernel_rfl)
      change wpList _ _ _ _ _ wr.drew
      go_upto_region 6 with (first
        | (go_at_call 10; refine PU.out.mono ?_; rintro e w2 ⟨m2, q2, e2, rfl, v2, h2, o2, ri2⟩))
      have OK2 : Hid (One w2 ck (.int .i64 k) 3) := Kept.row h2 OK.out (CQ.out _ HK.out)
      have OR2 : Hid (One w2 cr (.bool true) 4) := Kept.row h2 OR.out (CQ.out _ HR.out)
      have ml2 : m2.length ≤ 2 * (i + 1) := by have := len_le (push_writes _ _ _) e2; omega
      have HC2 : Hid (Chg (fun k => ¬ Q k ∨ C k) w w2) := (HC.out.trans (Chg.drew _ _)).trans (h2.mono (fun k _ h => .inl h))
      have V2 := Lib.hid v2
      have RI2 := Lib.hid ri2
      have L2 := Lib.hid (LC.out _ HC2.out)
      have z1 := L2.out.om.cell
      have z2 := OR2.out.cell; have z3 := OR2.out.free
      have R2b : Hid (One (w2.setCell ⟨cr, 0, none⟩ (.bool true)) cr (.bool true) 4) := OR2.out.set _
      have K2b : Hid (One (w2.setCell ⟨cr, 0, none⟩ (.bool true)) ck (.int .i64 k) 3) := OK2.out.other (by simpa using HNE.out) _
      have V2b : Hid (VWs A Q bv bm true q2 m2 (w2.setCell ⟨cr, 0, none⟩ (.bool true))) := VWs.store V2.out (CQ.out _ HR.out) (CR.out _ HR.out) 0 _
      have C2b : Hid (Chg (fun k => ¬ Q k ∨ C k) w (w2.setCell ⟨cr, 0, none⟩ (.bool true))) := HC2.out.trans (Chg.setCell _ _ _ (.inr HR.out))
      rcases HPH.out with ⟨p1, p2, p3⟩ | ⟨rfl, p2, μ2, p3, p4⟩
      · rw [p3] at e2 o2 ⊢
        have HR3 : Hid ((lastP most l).run A.f [] [] = (pushes most (l.drop (i + 1)) (i + 1) k true >>= fun r => midP most l r.1 r.2 >>= fun right => pops most l r.1 right >>= fun right => pop 1 most >>= fun x => pure (right && !x.2) : Prog Bool).run A.f m2 q2) := by
          have := HR2.out.trans (Prog.run_inr e2)
          rw [decide_eq_false (show ¬ (i : Int) < most by omega)] at this
          exact this
        have hdec : decide ((i : Int) < most) = false := by simp; omega
        have HF2 : Hid (HasF most l k (ov μ m2)) := by rw [o2]; exact HF.out
        have HI2 : Hid ((((i + 1 : Nat) : Int) ≤ most → k = i + 1) ∧ (most < ((i + 1 : Nat) : Int) → (k : Int) = most)) := ⟨fun h => by omega, fun _ => by have := HF.out.2.1; omega⟩
        clear e2 o2 v2 h2 ri2 OK OR HV HC PU y1 y2 d1 d2 d3 HR2 L2 HC2 V2 OK2 OR2 HPH HF HIK p3
        go_wp2
        go_roundw
        case rel => exact ⟨i + 1, k, m2, q2, by omega, by omega, by go_num, K2b, R2b, V2b, C2b, HR3, by omega, RI2, HF2, HI2⟩
        case measure => simp [intOf]; omega
      · rw [p3] at e2 o2 ⊢
        have HR3 : Hid ((lastP most l).run A.f [] [] = (pushes most (l.drop (k + 1)) (k + 1) (k + 1) true >>= fun r => midP most l r.1 r.2 >>= fun right => pops most l r.1 right >>= fun right => pop 1 most >>= fun x => pure (right && !x.2) : Prog Bool).run A.f m2 q2) := by
          have := HR2.out.trans (Prog.run_inr e2)
          rw [decide_eq_true p2] at this
          exact this
        have HF2 : Hid (HasF most l (k + 1) (ov μ m2)) := by rw [o2]; exact p4
        have HI2 : Hid ((((k + 1 : Nat) : Int) ≤ most → k + 1 = k + 1) ∧ (most < ((k + 1 : Nat) : Int) → ((k + 1 : Nat) : Int) = most)) := ⟨fun _ => rfl, fun h => by omega⟩
        have x1 := K2b.out.cell; have x2 := K2b.out.free
        have R2c : Hid (One ((w2.setCell ⟨cr, 0, none⟩ (.bool true)).setCell ⟨ck, 0, none⟩ (.int .i64 ((k + 1 : Nat) : Int))) cr (.bool true) 4) := R2b.out.other (by simpa using HNE.out.symm) _
        have K2c : Hid (One ((w2.setCell ⟨cr, 0, none⟩ (.bool true)).setCell ⟨ck, 0, none⟩ (.int .i64 ((k + 1 : Nat) : Int))) ck (.int .i64 ((k + 1 : Nat) : Int)) 3) := K2b.out.set _
        have V2c : Hid (VWs A Q bv bm true q2 m2 ((w2.setCell ⟨cr, 0, none⟩ (.bool true)).setCell ⟨ck, 0, none⟩ (.int .i64 ((k + 1 : Nat) : Int)))) := VWs.store V2b.out (CQ.out _ HK.out) (CR.out _ HK.out) 0 _
        have C2c : Hid (Chg (fun k => ¬ Q k ∨ C k) w ((w2.setCell ⟨cr, 0, none⟩ (.bool true)).setCell ⟨ck, 0, none⟩ (.int .i64 ((k + 1 : Nat) : Int)))) := C2b.out.trans (Chg.setCell _ _ _ (.inr HK.out))
        clear e2 o2 v2 h2 ri2 OK OR HV HC PU y1 y2 d1 d2 d3 HR2 L2 HC2 V2 OK2 OR2 HPH HF HIK p3 p4 K2b R2b V2b C2b
        go_wp2
        go_roundw
        case rel => exact ⟨k + 1, k + 1, m2, q2, by omega, by omega, by go_num, K2c, R2c, V2c, C2c, HR3, by omega, RI2, HF2, HI2⟩
        case measure => simp [intOf]; omega
    · obtain rfl : n = i := by omega
      have hdn : l.drop n = [] := List.drop_eq_nil_of_le (by rw [HN.out]; exact Nat.le_refl _)
      have HR4 : Hid ((lastP most l).run A.f [] [] = (many 1 most >>= fun nn => pops most l k (decide (nn = (k : Int)) && decide (k ≤ l.length)) >>= fun right => pop 1 most >>= fun x => pure (right && !x.2) : Prog Bool).run A.f m' qs') := by
        rw [Hid, HR'.out, hdn]
        show (midP most l k true >>= _ : Prog Bool).run A.f m' qs' = _
        rw [midP, if_pos rfl, Prog.bind_assoc]
        rfl
      have LN : Hid (Calls Try.prog 14 #[.pointer (some ⟨bv, 0, none⟩), .int .i64 1, .int .i64 most] wr.drew fun e w' => ∃ m2 q2, (lastP most l).run A.f [] [] = (pops most l k true >>= fun right => pop 1 most >>= fun x => pure (right && !x.2) : Prog Bool).run A.f m2 q2 ∧ e = .returned (.int .i64 k) ∧ VWs A Q bv bm true q2 m2 w' ∧ Kept Q wr.drew w' ∧ HasF most l k (ov μ m2) ∧ Rising m2 ∧ m2.length ≤ 2 * n) := by
        refine (Len_does (HV.out.new ((Below.refl _ _).drew)) (by omega) LI.out).mono fun e w' hh => ?_
        obtain ⟨v, m2, q2, t1, t2, ⟨t3, _⟩, t4, t5, t6, t7⟩ := hh.total HAF.out HRI.out (many_within (.inr (by omega)) _)
        rw [many_over] at t1 t6 t3
        have hmk := HF.out.many
        rw [hmk] at t1 t3
        subst t3
        refine ⟨m2, q2, ?_, t2, t4, t5, by rw [t6]; exact HF.out, t7, by have := len_le (many_writes _ _) t1; omega⟩
        rw [HR4.out, Prog.run_inr t1]
        have : (decide (((k : Nat) : Int) = (k : Int)) && decide (k ≤ l.length)) = true := by simp; rw [HN.out]; exact hki
        rw [this]
      clear hdn HR'
      have d1 : wr.drew.cell? ⟨cm, 0, none⟩ = some (.int .i64 most) := y2
      have d3 : wr.drew.cell? ⟨cl, 0, none⟩ = some (.slice As n cs) := y1
      have d4 : wr.drew.cell? ⟨ck, 0, none⟩ = some (.int .i64 k) := OK.out.cell
      have d5 : wr.drew.cell? ⟨cr, 0, none⟩ = some (.bool true) := OR.out.cell
      have d6 : wr.drew.frozen? ⟨cr, 0, none⟩ = false := OR.out.free
      go_upto_region 9 with fail
      go_cut [37] (fun s37 wx => ∃ (m2 : M) (q2 : List Int), Hid (One wx ck (.int .i64 k) 3) ∧ Hid (One wx cr (.bool true) 4) ∧ Hid (VWs A Q bv bm true q2 m2 wx) ∧ Hid (Chg (fun k => ¬ Q k ∨ C k) w wx) ∧
        Hid ((lastP most l).run A.f [] [] = (pops most l k true >>= fun right => pop 1 most >>= fun x => pure (right && !x.2) : Prog Bool).run A.f m2 q2) ∧ m2.length ≤ 2 * n ∧ Hid (HasF most l k (ov μ m2)) ∧ Hid (Rising m2))
      case first =>
        go_region_with ((go_at_call 14; refine LN.out.mono ?_; rintro e w2 ⟨m2, q2, e2, rfl, v2, h2, hf2, ri2, hm2⟩; have g2 := (One.kept (w' := w2) OK.out (h2.block _ OK.out.lt (fun hh => hh (CQ.out _ HK.out)))).cell; have g3 := (One.kept (w' := w2) LL.out.ol (h2.block _ LL.out.ol.lt (fun hh => hh (PQ.out _ HL.out)))).cell; have g4 := (One.kept (w' := w2) OR.out (h2.block _ OR.out.lt (fun hh => hh (CQ.out _ HR.out)))).free; have g5 := (One.kept (w' := w2) OR.out (h2.block _ OR.out.lt (fun hh => hh (CQ.out _ HR.out)))).cell; have V2 := Lib.hid v2; have H2 := Lib.hid h2; have E2 := Lib.hid e2; have HF2 := Lib.hid hf2; have RI2 := Lib.hid ri2; clear v2 h2 e2 hf2 ri2))
        all_goals (go_wp2_with fail; go_meet; exact ⟨m2, q2, One.other (OK.out.kept (H2.out.block _ OK.out.lt (fun hh => hh (CQ.out _ HK.out)))) (by simpa using HNE.out) _, One.set (OR.out.kept (H2.out.block _ OR.out.lt (fun hh => hh (CQ.out _ HR.out)))) _, VWs.store V2.out (CQ.out _ HR.out) (CR.out _ HR.out) 0 _, ((HC.out.trans (Chg.drew _ _)).trans (H2.out.mono (fun k _ h => .inl h))).trans (Chg.setCell _ _ _ (.inr HR.out)), E2.out, hm2, HF2.out, RI2.out⟩)
      case rest =>
        obtain ⟨m2, q2, OK2, OR2, V2, C2, HR5, ml2, HF2, RI2⟩ := hcut
        clear d1 d3 d4 d5 d6 LN HR4 HF HRI HV OR HIK
        have zk := OK2.out.cell
        have L2 := Lib.hid (LC.out _ C2.out)
        go_wp2
        go_loopw [8, 9, 10] (fun u8 u9 u10 wr => ∃ (j : Nat) (m' : M) (qs' : List Int), j ≤ k ∧ u8 = .int .i64 ((j : Int) - 1) ∧ Hid (One wr cr (.bool true) 4) ∧ Hid (VWs A Q bv bm true qs' m' wr) ∧ Hid (Chg (fun k => ¬ Q k ∨ C k) w wr) ∧
          Hid ((lastP most l).run A.f [] [] = (pops most l j true >>= fun right => pop 1 most >>= fun x => pure (right && !x.2) : Prog Bool).run A.f m' qs') ∧ m'.length ≤ 3 * n - j ∧ Hid (HasF most l j (ov μ m')) ∧ Hid (Rising m')) (fun u8 _ _ _ => (intOf u8 + 1).toNat)
        case atStart => exact ⟨k, m2, q2, by omega, rfl, OR2, V2, C2, HR5, by omega, HF2, RI2⟩
        case round =>
          clear OK2 OR2 V2 C2 HR5 HF2 RI2 zk L2 y1 y2
          obtain ⟨j, m3, q3, hj, rfl, OR3, V3, C3, HR6, ml3, HF3, RI3⟩ := hrel
          have L3 := Lib.hid (LC.out _ C3.out)
          have y1 := L3.out.ol.cell; have y2 := L3.out.om.cell
          have z1 := OR3.out.cell; have z2 := OR3.out.free
          cases j with
          | zero =>
            rw [show (((0 : Nat) : Int) - 1) = -1 by omega]
            have hov : (pop 1 most).over (ov μ m3) = ((0, false), ov μ m3) := by rw [pop_over, HF3.out.many]; rfl
            have PO : Hid (Calls Try.prog 9 #[.pointer (some ⟨bv, 0, none⟩), .int .i64 1, .int .i64 most] wr fun e w' => ∃ m4 q4, (pop 1 most).run A.f m3 q3 = (.inr (0, false), m4, q4) ∧ e = .returned (.tuple #[.int .i64 0, .bool false]) ∧ VWs A Q bv bm true q4 m4 w' ∧ Kept Q wr w') := by
              refine (Pop_does V3.out (by omega) LI.out).mono fun e w' hh => ?_
              obtain ⟨v, m4, q4, t1, t2, ⟨t3, _⟩, t4, t5, t6, t7⟩ := hh.total HAF.out RI3.out (pop_within (.inr (by omega)) _)
              rw [hov] at t1 t3
              subst t3
              exact ⟨m4, q4, t1, t2, t4, t5⟩
            clear hov
            go_upto_region 16 with (first
              | (go_at_call 9; refine PO.out.mono ?_; rintro e w4 ⟨m4, q4, e4, rfl, v4, h4⟩))
            have OR4 : Hid (One w4 cr (.bool true) 4) := Kept.row h4 OR3.out (CQ.out _ HR.out)
            have x1 := OR4.out.cell; have x2 := OR4.out.free
            have FIN : Hid (DoesL A P C Q bv bm (lastP most l) (fun b w => One w cr (.bool b) 4) w (.returned (.tuple #[])) (w4.setCell ⟨cr, 0, none⟩ (.bool true))) := by
              refine .inr ⟨true, fun _ => False, m4, q4, ?_, rfl, fun _ h => h.elim, VWs.less (VWs.store v4 (CQ.out _ HR.out) (CR.out _ HR.out) 0 _) (fun k hk => hk.elim id False.elim), (C3.out.trans (h4.mono (fun k _ h => .inl h))).trans (Chg.setCell _ _ _ (.inr HR.out)), fun w5 h5 => ?_⟩
              · rw [HR6.out]
                show (pop 1 most >>= fun x => pure (true && !x.2) : Prog Bool).run A.f m3 q3 = _
                rw [Prog.run_inr e4]
                rfl
              · exact (OR4.out.set _).kept (h5 _ (.inl (CP.out _ HR.out)))
            clear e4 v4 h4 PO OR3 V3 C3 HR6 HF3 RI3 z1 z2 y1 y2 OR4
            go_wp2
            go_end0
            exact FIN.out
          | succ j =>
            rw [show (((j + 1 : Nat) : Int) - 1) = (j : Int) by omega]
            have hjl : j < l.length := by rw [HN.out]; omega
            obtain ⟨b, off, rfl, hbB, hcell⟩ := word_row L3.out.ws hjl
            have hgx : l.getD j 0 = l[j] := by simp [hjl]
            obtain ⟨μ2, p3, p4⟩ := pop_has HF3.out
            rw [hgx] at p3
            obtain ⟨x, hx⟩ : ∃ x, l[j] = x := ⟨_, rfl⟩
            rw [hx] at p3 hcell hgx
            have hpu : Hid (pops most l (j + 1) true = (pop 1 most >>= fun y => pops most l j (true && y.2 && decide (y.1 = x)))) := by rw [Hid, pops, if_pos hjl, hgx]
            have PO : Hid (Calls Try.prog 9 #[.pointer (some ⟨bv, 0, none⟩), .int .i64 1, .int .i64 most] wr fun e w' => ∃ m4 q4, (lastP most l).run A.f [] [] = (pops most l j true >>= fun right => pop 1 most >>= fun x => pure (right && !x.2) : Prog Bool).run A.f m4 q4 ∧ e = .returned (.tuple #[.int .i64 x, .bool true]) ∧ VWs A Q bv bm true q4 m4 w' ∧ Kept Q wr w' ∧ HasF most l j (ov μ m4) ∧ Rising m4 ∧ m4.length ≤ 3 * n - j) := by
              refine (Pop_does V3.out (by omega) LI.out).mono fun e w' hh => ?_
              obtain ⟨v, m4, q4, t1, t2, ⟨t3, _⟩, t4, t5, t6, t7⟩ := hh.total HAF.out RI3.out (pop_within (.inr (by omega)) _)
              rw [p3] at t1 t3 t6
              subst t3
              refine ⟨m4, q4, ?_, t2, t4, t5, by rw [t6]; exact p4, t7, by have := len_le (pop_writes _ _) t1; omega⟩
              rw [HR6.out, hpu.out, Prog.bind_assoc, Prog.run_inr t1]
              simp
            have c1 : ∀ w' : World, Kept Q wr w' → w'.cell? ⟨b, off + j, none⟩ = some (.int .i64 x) := fun w' hk' => by
              have := World.block_lt_of_cell? wr _ hcell
              rw [← hcell]
              simp only [World.cell?]
              rw [hk'.block b this (fun hn => hn (PQ.out _ (HB.out _ hbB)))]
            have C1 := Lib.hid c1
            clear hx hgx hcell p3 p4 hpu HF3 hjl c1
            go_upto_region 14 with (first
              | (go_at_call 9; refine PO.out.mono ?_; rintro e w4 ⟨m4, q4, e4, rfl, v4, h4, hf4, ri4, hm4⟩))
            have OR4 : Hid (One w4 cr (.bool true) 4) := Kept.row h4 OR3.out (CQ.out _ HR.out)
            have x1 := OR4.out.cell; have x2 := OR4.out.free
            have C4 : Hid (Chg (fun k => ¬ Q k ∨ C k) w w4) := C3.out.trans (h4.mono (fun k _ h => .inl h))
            have L4 := Lib.hid (LC.out _ C4.out)
            have y3 := L4.out.ol.cell
            have y4 := C1.out _ h4
            have OR5 : Hid (One (w4.setCell ⟨cr, 0, none⟩ (.bool true)) cr (.bool true) 4) := OR4.out.set _
            have V5 : Hid (VWs A Q bv bm true q4 m4 (w4.setCell ⟨cr, 0, none⟩ (.bool true))) := VWs.store v4 (CQ.out _ HR.out) (CR.out _ HR.out) 0 _
            have C5 : Hid (Chg (fun k => ¬ Q k ∨ C k) w (w4.setCell ⟨cr, 0, none⟩ (.bool true))) := C4.out.trans (Chg.setCell _ _ _ (.inr HR.out))
            have E4 := Lib.hid e4; have HF4 := Lib.hid hf4; have RI4 := Lib.hid ri4
            clear e4 v4 h4 hf4 ri4 PO OR3 V3 C3 HR6 RI3 z1 z2 y1 y2 OR4 C4
            go_wp2
            go_roundw
            case rel => exact ⟨j, m4, q4, by omega, rfl, OR5, V5, C5, E4, hm4, HF4, RI4⟩
            case measure => simp [intOf]

theorem pops_writes' (most : Int) (l : List Int) (n : Nat) (r : Bool) : (pops most l n r).Writes l.length := by
  by_cases h : n ≤ l.length
  · exact (pops_writes most l n r).mono h
  · obtain ⟨k, rfl⟩ : ∃ k, n = k + 1 := ⟨n - 1, by omega⟩
    rw [pops, if_neg (by omega)]
    exact Prog.Writes.pure _ _
theorem lastP_writes (most : Int) (l : List Int) (hl : l.length ≤ 60) : (lastP most l).Writes 400 :=
  Prog.Writes.mono (Prog.Writes.bind (k := l.length + 1) (pushes_writes most l 0 0 true) fun r =>
    Prog.Writes.mono (Prog.Writes.bind (k := l.length + 1) (midP_writes most l r.1 r.2) fun right => Prog.Writes.bind (k := 1) (pops_writes' most l r.1 right) fun _ => Prog.Writes.bind (k := 0) (pop_writes 1 most) fun _ => Prog.Writes.pure _ _) (by omega)) (by omega)

set_option maxRecDepth 100000 in
set_option maxHeartbeats 8000000 in
theorem last_in {w : World} {sl : Value} {l : List Int} {most : Int} (h : Words w w.heap.size sl l) (hl : WIn l) :
    Calls Try.prog 4 #[sl, .int .i64 most] w fun e w' => e = .returned (.bool true) ∧ Below w.heap.size w w' := by
  have hmf : ∀ (fn : Fn) (first cap : Array Value) (w : World), (Instr.makeFunc fn first cap).run Try.prog w = .ok (.func fn first cap) w := fun _ _ _ _ => rfl
  obtain ⟨As, cs, rfl, ms, _⟩ := id h
  obtain ⟨n, hn⟩ : ∃ n, l.length = n := ⟨_, rfl⟩
  obtain ⟨g, hg⟩ : ∃ g, w.heap.size = g := ⟨_, rfl⟩
  have HN := Lib.hid hn; have HL := Lib.hid hl
  rw [hg] at h ⊢
  rw [hn] at h ms ⊢
  have ms : n ≤ 9223372036854775807 := ms
  have H := Lib.hid h
  obtain ⟨w1, hw1⟩ : ∃ w1, (w.alloc (.cells #[.slice As n cs] 22)).alloc (.cells #[.int .i64 most] 3) = w1 := ⟨_, rfl⟩
  have s1 : w1.heap.size = g + 2 := by rw [← hw1, ← hg]; simp
  have B1 : Hid (Below g w w1) := by rw [← hw1, ← hg]; exact ((Below.refl _ _).alloc (Nat.le_refl _) _).alloc (by simp) _
  have O1 : Hid (One w1 g (.slice As n cs) 22) := by rw [← hw1, ← hg]; exact (One.new w _ _).alloc _
  have O2 : Hid (One w1 (g + 1) (.int .i64 most) 3) := by rw [← hw1, ← hg]; exact One.at (by simp) _ _
  have k1 := O1.out.cell; have k2 := O2.out.cell
  clear h hn hl
  by_cases hbig : 60 < n
  · go_enter Try.func4, Try.ntmps4
    go_wp2_with (first
      | (go_at_call 12; refine (lives_any _).mono ?_; rintro e w2 ⟨rfl, hb2⟩))
    go_ret
    exact ⟨rfl, B1.out.trans (hb2.mono (by omega))⟩
  · by_cases hneg : most < 0
    · go_enter Try.func4, Try.ntmps4
      go_wp2_with (first
        | (go_at_call 12; refine (lives_any _).mono ?_; rintro e w2 ⟨rfl, hb2⟩))
      go_ret
      exact ⟨rfl, B1.out.trans (hb2.mono (by omega))⟩
    · by_cases hgt : 60 < most
      · go_enter Try.func4, Try.ntmps4
        go_wp2_with (first
          | (go_at_call 12; refine (lives_any _).mono ?_; rintro e w2 ⟨rfl, hb2⟩))
        go_ret
        exact ⟨rfl, B1.out.trans (hb2.mono (by omega))⟩
      · obtain ⟨mo, rfl⟩ : ∃ mo : Nat, most = mo := ⟨most.toNat, by omega⟩
        have hmo : mo ≤ 60 := by omega
        obtain ⟨w2, hw2⟩ : ∃ w2, (w1.alloc (.cells #[.int .i64 0] 3)).alloc (.cells #[.bool false] 4) = w2 := ⟨_, rfl⟩
        have s2 : w2.heap.size = g + 4 := by rw [← hw2]; simp; omega
        have B2 : Hid (Below (g + 2) w1 w2) := by rw [← hw2, Hid, ← s1]; exact ((Below.refl _ _).alloc (Nat.le_refl _) _).alloc (by simp) _
        have OK2 : Hid (One w2 (g + 2) (.int .i64 0) 3) := by rw [← hw2, ← s1]; exact (One.new w1 _ _).alloc _
        have OR2 : Hid (One w2 (g + 2 + 1) (.bool false) 4) := by rw [← hw2, ← s1]; exact One.at (by simp) _ _
        have z2 := OR2.out.same; have f2 := OR2.out.free; have x2 := OR2.out.cell
        obtain ⟨w3, hw3⟩ : ∃ w3, w2.alloc (.cells ((List.replicate (mo + 2) (0 : Int)).map (Value.int .i64)).toArray 3) = w3 := ⟨_, rfl⟩
        have hmk : (Instr.makeSlice 22 (.int .i64 (mo + 2)) (.int .i64 (mo + 2))).run Try.prog w2 = .ok (.slice (some ⟨w2.heap.size, 0, none⟩) (mo + 2) (mo + 2)) (w2.alloc (.cells ((List.replicate (mo + 2) (0 : Int)).map (Value.int .i64)).toArray 3)) := View.make_ints (mo + 2) (by omega) w2
        rw [hw3, s2] at hmk
        have s3 : w3.heap.size = g + 5 := by rw [← hw3]; simp; omega
        have B3 : Hid (Below (g + 4) w2 w3) := by rw [← hw3, Hid, ← s2]; exact (Below.refl _ _).alloc (Nat.le_refl _) _
        have W3 : Hid (Words w3 w3.heap.size (.slice (some ⟨g + 4, 0, none⟩) (mo + 2) (mo + 2)) (List.replicate (mo + 2) 0)) := by
          have r3 : w3.heap[g + 4]? = some (.cells ((List.replicate (mo + 2) (0 : Int)).map (Value.int .i64)).toArray 3 (0, 0)) := by rw [← hw3, ← s2]; exact new_row _ _ _
          have := (TW.full (base := 0) r3 (by omega) (by simp [maxLen]; omega)).words
          rw [List.length_replicate] at this; exact this
        have k3 : w3.cell? ⟨g + 1, 0, none⟩ = some (.int .i64 mo) := ((O2.out.kept (B2.out.block _ (by omega))).kept (B3.out.block _ (by omega))).cell
        have k4 : w2.cell? ⟨g + 1, 0, none⟩ = some (.int .i64 mo) := (O2.out.kept (B2.out.block _ (by omega))).cell
        have hμ : fn (List.replicate (mo + 2) 0) 1 = 0 := by simp [fn]
        have hlr := last_right (most := (mo : Int)) (by omega) l (fn (List.replicate (mo + 2) 0)) hμ
        have DP : Hid (Calls Try.prog 7 #[.slice (some ⟨g + 4, 0, none⟩) (mo + 2) (mo + 2), .func (.func 13) #[] #[.pointer (some ⟨g + 2, 0, none⟩), .pointer (some ⟨g + 2 + 1, 0, none⟩), .pointer (some ⟨g, 0, none⟩), .pointer (some ⟨g + 1, 0, none⟩)]] w3
            (ProgOut (fun k => k = g + 2 ∨ k = g + 3) (List.replicate (mo + 2) 0) (lastP mo l) (fun b w => One w (g + 2 + 1) (.bool b) 4) w3)) := by
          refine do_prog W3.out (fun p hp => by
              have := List.eq_of_mem_replicate hp
              subst this; unfold In64; omega) (by simp; omega) _ _ (lastP mo l) (lastP_writes _ _ (by rw [HN.out]; omega)) (by omega) (by
                have e : ((List.replicate (mo + 2) (0 : Int)).length : Int) = (mo : Int) + 2 := by simp
                rw [e]; exact hlr.2) (callFunc_run Try.func13 (by kernel_rfl) (by kernel_rfl)) _ (fun k hk => by omega) _ ?_
          intro A hAf hR bv bm Q w' hQ hb hv
          have hbl : ∀ {c : Nat} {v : Value} {t : TypeId}, c < g + 2 → One w1 c v t → One w' c v t := fun hc ho => ((ho.kept (B2.out.block _ hc)).kept (B3.out.block _ (by omega))).kept (hb.block _ (by omega))
          refine last1_does (B := g) hv (fun k hk => hQ k hk) (fun k hk => by omega) (fun k hk hr => ?_) (.inl rfl) (.inr rfl) (by omega) (by omega) (by omega) (fun k hk => by omega) ⟨hbl (by omega) O1.out, hbl (by omega) O2.out, (((H.out.below B1.out).below (B2.out.mono (by omega))).below (B3.out.mono (by omega))).below (hb.mono (by omega)), by omega, by omega, fun k hk => by omega⟩ (by rw [HN.out]; omega) HL.out ⟨by omega, by omega⟩ (μ := fn (List.replicate (mo + 2) 0)) (fun a h0 h1 => ?_) hμ 0 false
            ((OK2.out.kept (B3.out.block _ (by omega))).kept (hb.block _ (by omega))) ((OR2.out.kept (B3.out.block _ (by omega))).kept (hb.block _ (by omega)))
          · obtain ⟨b, off, n, c, e, rfl⟩ := hR k hr
            injection e with e _ _
            injection e with e
            injection e with e _ _
            omega
          · rw [hAf]
            exact fW_fn _ a h0 (by simpa using h1)
        have HLR := Lib.hid hlr.1
        clear hlr hμ
        go_enter Try.func4, Try.ntmps4
        go_wp2_with fail
        refine DP.out.mono ?_
        rintro e w4 ⟨A, c, v2, ws, nd, rfl, hlen, ht, hq, hat, hch, hph⟩
        obtain ⟨A5, c5, rfl, _⟩ := hq
        have O4 := hph w4 (fun _ _ => rfl)
        rw [HLR.out] at O4
        have y1 := O4.cell
        have B4 : Hid (Below g w w4) := (B1.out.trans (B2.out.mono (by omega))).trans ((B3.out.mono (by omega)).trans (hch.below (by omega) (fun k hk => by omega)))
        have hs4 : g ≤ w4.heap.size := by have := hch.size; omega
        clear ht hat hch hph O4 hlen
        go_wp2_with (first
          | (go_at_call 12; refine (lives_any _).mono ?_; rintro e w12 ⟨rfl, hb12⟩))
        go_ret
        exact ⟨rfl, B4.out.trans (hb12.mono hs4)⟩

end Stk
namespace StkLast
open Stk View
theorem walk {H : Type} {enc : TypeId × Value → H} {base : Nat} {spare : Nat → Bool} {held : Bool} {d0 : DataW H} {p0 : List MemPlace} {r : Reach} {b0 : Nat} (v0 : Value) (a : Int) (w : World)
    (hv0 : Value.okWide Try.prog w r b0 22 v0) (t0 : DataW.Trod enc Try.prog w base spare held 22 v0 d0 p0) (_ : (Lit.int .i64 a).wf = true) :
    Calls Try.prog 4 #[v0, .int .i64 a] w fun e w' => e = .returned (.bool true) ∧ Below w.heap.size w w' := by
  obtain ⟨ws, h1, h2⟩ := words_of hv0 t0
  exact last_in h1 h2
end StkLast
end Go.Proofs.Ytfmjcinhjbihoab
