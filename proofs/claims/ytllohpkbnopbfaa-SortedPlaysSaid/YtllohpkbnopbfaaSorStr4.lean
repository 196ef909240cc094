import Derived.Test.YtllohpkbnopbfaaSorStr3
namespace Go.Proofs.Ytllohpkbnopbfaa
open Go.RowKit Go.Bas SorPlain Go.Sor
namespace SorStr

/-- New -/
theorem new_any (w : World) : Calls Try.prog 10 #[] w fun e w' => e = .returned (.pointer (some ⟨w.heap.size, 0, none⟩)) ∧ w.alloc (.cells #[.slice none 0 0] 56) = w' := by
  go_enter Try.func10, Try.ntmps10
  go_wp2
  go_ret
  exact ⟨rfl, rfl⟩

/-- Put, of any map -/
theorem put_any {w : World} {b : Nat} {v : Value} {xs : List (Int × Value)} (h : IsMap 56 58 w b v xs) (hn : (xs.length + 1) * 24 ≤ 140737488355328) (k : Int) (s : ByteArray) :
    Calls Try.prog 11 #[.pointer (some ⟨b, 0, none⟩), .int .i64 k, .string s] w fun e w' => e = .returned (.bool (!has k xs)) ∧ ∃ v', IsMap 56 58 w' b v' (put k (.string s) xs) ∧ Chg (fp b v) w w' ∧ (v'.ownBlock = v.ownBlock ∨ ∃ g, v'.ownBlock = some g ∧ w.heap.size ≤ g) := by
  cases hh : has k xs with
  | true => exact (put_old h (by omega) k s hh).mono fun e w' ⟨he, hm, hc⟩ => ⟨he, v, hm, hc, .inl rfl⟩
  | false => exact (put_new h hn k s hh).mono fun e w' ⟨he, v', hm, hc, hb⟩ => ⟨he, v', hm, hc, hb⟩

/-- Put, of a map that is the call's own -/
theorem put_my {B : Nat} {w : World} {b : Nat} {v : Value} {xs : List (Int × Value)} (h : MyMap 56 58 B w b v xs) (hB : B ≤ w.heap.size) (hn : (xs.length + 1) * 24 ≤ 140737488355328) (k : Int) (s : ByteArray) :
    Calls Try.prog 11 #[.pointer (some ⟨b, 0, none⟩), .int .i64 k, .string s] w fun e w' => e = .returned (.bool (!has k xs)) ∧ ∃ v', MyMap 56 58 B w' b v' (put k (.string s) xs) ∧ Below B w w' :=
  (put_any h.is hn k s).mono fun e w' ⟨he, v', hm, hc, hb⟩ => ⟨he, v', h.next hB hm hb, hc.below hB h.fp⟩

def A_ : ByteArray := { data := #[97] }
def B_ : ByteArray := { data := #[98] }
def C_ : ByteArray := { data := #[99] }

/-- the document's example -/
theorem lives_any (w : World) : Calls Try.prog 9 #[] w fun e w' => e = .returned (.bool true) ∧ Below w.heap.size w w' := by
  obtain ⟨B, hB⟩ : ∃ B, B = w.heap.size := ⟨_, rfl⟩
  rw [← hB]
  have hB0 : B ≤ w.heap.size := by omega
  clear hB
  go_enter Try.func9, Try.ntmps9
  go_wp2_with fail
  go_at_call 10
  refine (new_any w).mono ?_
  rintro e w0 ⟨rfl, hw0⟩
  have m0 := myMap_new 56 58 w hB0
  have b0 : Below B w (w.alloc (.cells #[.slice none 0 0] 56)) := (Below.refl _ _).alloc hB0 _
  rw [hw0] at m0 b0
  have hB1 : B ≤ w0.heap.size := Nat.le_trans hB0 b0.size
  have M0 := Lib.hid m0; have B0 := Lib.hid b0
  clear m0 b0 hw0
  go_wp2_with fail
  go_at_call 11
  have c1 := put_my M0.out hB1 (by decide) 5 A_
  rw [show has (5 : Int) ([] : List (Int × Value)) = false from rfl, show put (5 : Int) (.string A_) ([] : List (Int × Value)) = [(5, .string A_)] from rfl] at c1
  refine c1.mono ?_
  clear c1
  rintro e w1 ⟨rfl, v1, m1, b1⟩
  have hB2 : B ≤ w1.heap.size := Nat.le_trans hB1 b1.size
  have M1 := Lib.hid m1; have B1 := Lib.hid b1
  clear m1 b1
  go_wp2_with fail
  go_at_call 11
  have c1 := put_my M1.out hB2 (by decide) 2 B_
  rw [show has (2 : Int) [((5 : Int), Value.string A_)] = false from rfl, show put (2 : Int) (.string B_) [((5 : Int), Value.string A_)] = [(2, .string B_), (5, .string A_)] from rfl] at c1
  refine c1.mono ?_
  clear c1
  rintro e w2 ⟨rfl, v2, m2, b2⟩
  have hB3 : B ≤ w2.heap.size := Nat.le_trans hB2 b2.size
  have M2 := Lib.hid m2; have B2 := Lib.hid b2
  clear m2 b2
  go_wp2_with fail
  go_at_call 11
  have c1 := put_my M2.out hB3 (by decide) 5 C_
  rw [show has (5 : Int) [((2 : Int), Value.string B_), (5, .string A_)] = true from rfl, show put (5 : Int) (.string C_) [((2 : Int), Value.string B_), (5, .string A_)] = [(2, .string B_), (5, .string C_)] from rfl] at c1
  refine c1.mono ?_
  clear c1
  rintro e w3 ⟨rfl, v3, m3, b3⟩
  have M3 := Lib.hid m3; have B3 := Lib.hid b3
  clear m3 b3
  go_wp2_with fail
  go_at_call 14
  have c1 := at_some M3.out.is (by decide) 1 (by decide)
  rw [show (keys [((2 : Int), Value.string B_), (5, .string C_)]).getD 1 0 = 5 from rfl, show ([((2 : Int), Value.string B_), (5, .string C_)].map (·.2)).getD 1 undef = .string C_ from rfl] at c1
  refine c1.mono ?_
  clear c1
  rintro e w4 ⟨rfl, m, rfl⟩
  have cl := len_any (M3.out.is.drewN m)
  rw [show [((2 : Int), Value.string B_), (5, Value.string C_)].length = 2 from rfl] at cl
  unfold C_
  go_wp2_with (go_at_call 15; refine cl.mono ?_; rintro e w' ⟨rfl, rfl⟩)
  go_ret
  exact ⟨rfl, ((B0.out.trans B1.out).trans B2.out).trans (B3.out.trans (drewN_below _ _ _))⟩

end SorStr
end Go.Proofs.Ytllohpkbnopbfaa
