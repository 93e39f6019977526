/- Far, Wide, Parts. -/
import Derived.Test.YtlnjnpedcbljcaaWay
namespace Go.Proofs.Ytlnjnpedcbljcaa
open Go.RowKit RoutePlain

theorem ret_int {k : IntKind} {a b : Int} (h : a = b) : Ending.returned (.int k a) = .returned (.int k b) := by rw [h]
theorem far_lo (m : Nat → Nat → Bool) (n a b : Nat) : -1 ≤ far m n a b ∧ far m n a b ≤ 99 := by
  unfold far
  split
  · have := fw_top (m := m) n a b; omega
  · omega
theorem far_out (w : World) (p n mb : Nat) (a b : Int) (ho : Blk w p 47 #[.bool true, .slice (some ⟨mb, 0, none⟩) n n]) (h : isB n a = false ∨ isB n b = false) :
    Calls Try.prog 11 #[.pointer (some ⟨p, 0, none⟩), .int .i64 a, .int .i64 b] w fun e w' => e = .returned (.int .i64 (-1)) ∧ w' = w := by
  have H := Lib.hid ho
  have HH := Lib.hid h
  clear ho h
  go_enter Try.func11, Try.ntmps11
  go_wp2_with fail
  refine (way_out w p n mb a b H.out HH.out).mono ?_
  rintro e w' ⟨rfl, rfl⟩
  go_wp2
  go_ret
  exact ⟨rfl, rfl⟩
theorem far_in (w : World) (B0 p mb n : Nat) (rb : Nat → Nat) (m : Nat → Nat → Bool) (a b : Nat) (hG : Graph w B0 p mb rb n m) (ha : a < n) (hb : b < n) (hn : n ≤ 16) :
    Calls Try.prog 11 #[.pointer (some ⟨p, 0, none⟩), .int .i64 a, .int .i64 b] w fun e w' => e = .returned (.int .i64 (far m n a b)) ∧ Below w.heap.size w w' := by
  have H := Lib.hid hG
  clear hG
  go_enter Try.func11, Try.ntmps11
  go_wp2_with fail
  refine (way_in w B0 p mb n rb m a b H.out ha hb hn).mono ?_
  rintro e w' ⟨B, lev, hT, hbel, h⟩
  have hf := far_tree hT (by omega) hb
  have HB := Lib.hid hbel
  rcases h with ⟨hn0, rfl⟩ | ⟨v, xs, hs, rfl, hl, _, ho⟩
  · have HF := Lib.hid (show far m n a b = -1 by rw [hf, hn0]; rfl)
    clear hf hT hbel hn0
    go_wp2_with fail
    go_ret
    exact ⟨by rw [HF.out]; rfl, HB.out⟩
  · have HF := Lib.hid (show far m n a b = (lev b : Int) by rw [hf, if_pos hs])
    have hle := hT.small b hs
    rw [hl] at ho
    obtain ⟨A, cap, rfl⟩ := ho.len
    clear hf hT hbel hs hl ho
    go_wp2_with fail
    go_ret
    exact ⟨ret_int (by rw [HF.out]; omega), HB.out⟩

/-! ### Wide -/
def rowMax (m : Nat → Nat → Bool) (n a : Nat) : Nat → Int → Int
  | 0, w => w
  | k + 1, w => max (rowMax m n a k w) (far m n a k)
def allMax (m : Nat → Nat → Bool) (n : Nat) : Nat → Int
  | 0 => 0
  | a + 1 => rowMax m n a n (allMax m n a)
theorem rowMax_bd (m : Nat → Nat → Bool) (n a k : Nat) (w : Int) (h0 : 0 ≤ w) (h1 : w ≤ 99) : 0 ≤ rowMax m n a k w ∧ rowMax m n a k w ≤ 99 := by
  induction k with
  | zero => exact ⟨h0, h1⟩
  | succ k ih => unfold rowMax; have := far_lo m n a k; omega
theorem allMax_bd (m : Nat → Nat → Bool) (n a : Nat) : 0 ≤ allMax m n a ∧ allMax m n a ≤ 99 := by
  induction a with
  | zero => unfold allMax; omega
  | succ a ih => unfold allMax; exact rowMax_bd m n a n _ ih.1 ih.2

set_option maxHeartbeats 1000000 in
theorem wide_graph (w : World) (B0 p mb n : Nat) (rb : Nat → Nat) (m : Nat → Nat → Bool) (hG : Graph w B0 p mb rb n m) (hn : n ≤ 16) :
    Calls Try.prog 15 #[.pointer (some ⟨p, 0, none⟩)] w fun e w' => e = .returned (.int .i64 (allMax m n n)) ∧ Below w.heap.size w w' := by
  have H := Lib.hid hG
  clear hG
  go_enter Try.func15, Try.ntmps15
  go_wp2_with fail
  refine (len_graph w p n mb H.out.obj).mono ?_
  rintro e w' ⟨rfl, hw⟩
  obtain rfl := hw.symm
  go_wp2_with fail
  go_loopg [3, 8] n (fun gk mo i wr => ∃ a, a ≤ n ∧ gk = n - a ∧ i = .int .i64 (a : Int) ∧ mo = .int .i64 (allMax m n a) ∧ Below w.heap.size w wr)
  case atStart => exact ⟨0, Nat.zero_le _, rfl, rfl, rfl, Below.refl _ _⟩
  case round =>
    obtain ⟨a, han, rfl, rfl, rfl, hb⟩ := hrel
    have HB := Lib.hid hb
    clear hb
    by_cases hlt : a < n
    · have hlt' : (a : Int) < (n : Int) := by omega
      have hab := allMax_bd m n a
      go_wp2_with fail
      refine (len_graph wr p n mb (H.out.below HB.out).obj).mono ?_
      rintro e w' ⟨rfl, hw2⟩
      obtain rfl := hw2.symm
      go_wp2_with fail
      obtain ⟨wo, rfl⟩ : ∃ wo : World, wo = wr := ⟨_, rfl⟩
      go_loopg [3, 13] n (fun gk mo i wi => ∃ b, b ≤ n ∧ gk = n - b ∧ i = .int .i64 (b : Int) ∧ mo = .int .i64 (rowMax m n a b (allMax m n a)) ∧ Below w.heap.size w wi)
      case atStart => exact ⟨0, Nat.zero_le _, rfl, rfl, rfl, HB.out⟩
      case round =>
        obtain ⟨b, hbn, rfl, rfl, rfl, hb⟩ := hrel
        have HBi := Lib.hid hb
        clear hb
        by_cases hlb : b < n
        · have hlb' : (b : Int) < (n : Int) := by omega
          have hrm := rowMax_bd m n a b _ hab.1 hab.2
          have hfl := far_lo m n a b
          have HS := Lib.hid (show rowMax m n a (b + 1) (allMax m n a) = max (rowMax m n a b (allMax m n a)) (far m n a b) from rfl)
          go_wp2_with fail
          refine (far_in wr B0 p mb n rb m a b (H.out.below HBi.out) hlt hlb hn).mono ?_
          rintro e w2 ⟨rfl, hb2⟩
          have HB2 := Lib.hid (HBi.out.trans (hb2.mono HBi.out.size))
          clear hb2
          generalize rowMax m n a b (allMax m n a) = x at *
          generalize far m n a b = y at *
          go_wp2_with fail
          all_goals
            go_roundg (n - (b + 1))
            case measure => omega
            case rel => exact ⟨b + 1, by omega, rfl, by go_num, by rw [HS.out]; exact congrArg (Value.int .i64) (by omega), HB2.out⟩
        · obtain rfl : b = n := by omega
          have HS := Lib.hid (show allMax m b (a + 1) = rowMax m b a b (allMax m b a) from rfl)
          generalize rowMax m b a b (allMax m b a) = x at *
          go_wp2_with fail
          go_roundg (b - (a + 1))
          case measure => omega
          case rel => exact ⟨a + 1, by omega, rfl, by go_num, by rw [HS.out], HBi.out⟩
    · obtain rfl : a = n := by omega
      go_wp2_with fail
      go_ret
      exact ⟨rfl, HB.out⟩
end Go.Proofs.Ytlnjnpedcbljcaa
