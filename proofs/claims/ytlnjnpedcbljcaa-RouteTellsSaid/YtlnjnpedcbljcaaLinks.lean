/- Links. -/
import Derived.Test.YtlnjnpedcbljcaaParts
namespace Go.Proofs.Ytlnjnpedcbljcaa
open Go.RowKit RoutePlain

theorem Try.info41 : (Try.prog.info? 41).map (fun i => (i.zero, i.size, i.bytes)) = some (some (.agg #[.int .i64 0, .int .i64 0]), 2, 16) := by kernel_rfl
def rowL (m : Nat → Nat → Bool) (a b : Nat) : List (Nat × Nat) := ((List.range b).filter fun x => decide (a < x) && m a x).map fun x => (a, x)
def lks (m : Nat → Nat → Bool) (n a : Nat) : List (Nat × Nat) := (List.range a).flatMap fun i => rowL m i n
def pairs (l : List (Nat × Nat)) : List Value := l.flatMap fun x => [.int .i64 (x.1 : Int), .int .i64 (x.2 : Int)]
theorem rowL_succ (m : Nat → Nat → Bool) (a b : Nat) : rowL m a (b + 1) = rowL m a b ++ if a < b ∧ m a b = true then [(a, b)] else [] := by
  unfold rowL
  rw [List.range_succ, List.filter_append, List.map_append]
  congr 1
  by_cases h : a < b <;> cases hm : m a b <;> simp [h, hm]
theorem rowL_low (m : Nat → Nat → Bool) (a b : Nat) (h : b ≤ a + 1) : rowL m a b = [] := by
  induction b with
  | zero => rfl
  | succ b ih => rw [rowL_succ, ih (by omega), if_neg (by omega)]; rfl
theorem rowL_len (m : Nat → Nat → Bool) (a b : Nat) : (rowL m a b).length ≤ b := by
  unfold rowL
  rw [List.length_map]
  have := List.length_filter_le (fun x => decide (a < x) && m a x) (List.range b)
  simpa using this
theorem lks_succ (m : Nat → Nat → Bool) (n a : Nat) : lks m n (a + 1) = lks m n a ++ rowL m a n := by
  unfold lks
  rw [List.range_succ, List.flatMap_append]
  simp
theorem lks_len (m : Nat → Nat → Bool) (n a : Nat) : (lks m n a).length ≤ a * n := by
  induction a with
  | zero => simp [lks]
  | succ a ih => rw [lks_succ, List.length_append, Nat.succ_mul]; have := rowL_len m a n; omega
theorem pairs_append (l r : List (Nat × Nat)) : pairs (l ++ r) = pairs l ++ pairs r := by simp [pairs]

set_option maxHeartbeats 1000000 in
theorem links_graph (w : World) (B0 p mb n : Nat) (rb : Nat → Nat) (m : Nat → Nat → Bool) (hG : Graph w B0 p mb rb n m) (hn : n ≤ 16) :
    Calls Try.prog 10 #[.pointer (some ⟨p, 0, none⟩)] w fun e w' => ∃ v, e = .returned v ∧ Owns w' w.heap.size 41 2 v (lks m n n).length (pairs (lks m n n)) ∧ Below w.heap.size w w' := by
  have H := Lib.hid hG
  clear hG
  go_enter Try.func10, Try.ntmps10
  go_wp2_with fail
  refine (len_graph w p n mb H.out.obj).mono ?_
  rintro e w' ⟨rfl, hw⟩
  obtain rfl := hw.symm
  go_wp2_with fail
  go_loopg [3, 8] n (fun gk v i wr => ∃ a, a ≤ n ∧ gk = n - a ∧ i = .int .i64 (a : Int) ∧ Owns wr w.heap.size 41 2 v (lks m n a).length (pairs (lks m n a)) ∧ Below w.heap.size w wr)
  case atStart => exact ⟨0, Nat.zero_le _, rfl, rfl, Owns.nil _ _ _ _, Below.refl _ _⟩
  case round =>
    obtain ⟨a, han, rfl, rfl, ho, hb⟩ := hrel
    have HO := Lib.hid ho
    have HB := Lib.hid hb
    clear ho hb
    by_cases hlt : a < n
    · have hlt' : (a : Int) < (n : Int) := by omega
      go_wp2_with fail
      obtain ⟨wo, rfl⟩ : ∃ wo : World, wo = wr := ⟨_, rfl⟩
      obtain ⟨v3, rfl⟩ : ∃ v3 : Value, v3 = u3 := ⟨_, rfl⟩
      go_loopg [3, 5] (n - (a + 1)) (fun gk v i wr => ∃ b, a + 1 ≤ b ∧ b ≤ n ∧ gk = n - b ∧ i = .int .i64 (b : Int) ∧ Owns wr w.heap.size 41 2 v (lks m n a ++ rowL m a b).length (pairs (lks m n a ++ rowL m a b)) ∧ Below w.heap.size w wr)
      case atStart => exact ⟨a + 1, by omega, by omega, rfl, rfl, by rw [rowL_low m a (a + 1) (Nat.le_refl _), List.append_nil]; exact HO.out, HB.out⟩
      case round =>
        obtain ⟨b, hab, hbn, rfl, rfl, ho, hb⟩ := hrel
        have HO2 := Lib.hid ho
        have HB2 := Lib.hid hb
        have hG2 := H.out.below hb
        have HG2 := Lib.hid hG2
        clear ho hb
        by_cases hlb : b < n
        · have hlb' : (b : Int) < (n : Int) := by omega
          have c1 : wr.cell? ⟨p, 1, none⟩ = some (.slice (some ⟨mb, 0, none⟩) n n) := by rw [hG2.obj.cell]; rfl
          have c2 := hG2.rows.cell hlt
          have c3 := (hG2.each a hlt).cell hlb
          have HR := Lib.hid (rowL_succ m a b)
          clear hG2
          cases hm : m a b
          · rw [hm] at c3
            have HM := Lib.hid hm
            clear hm
            go_wp2_with fail
            refine (len_graph wr p n mb HG2.out.obj).mono ?_
            rintro e w4 ⟨rfl, hw4⟩
            obtain rfl := hw4.symm
            go_wp2_with fail
            go_roundg (n - (b + 1))
            case measure => omega
            case rel => exact ⟨b + 1, by omega, by omega, rfl, by go_num, by rw [HR.out, HM.out, if_neg (by simp), List.append_nil]; exact HO2.out, HB2.out⟩
          · rw [hm] at c3
            have HM := Lib.hid hm
            have hl1 := lks_len m n a
            have hl2 := rowL_len m a b
            have hl3 : a * n ≤ 16 * 16 := Nat.mul_le_mul (by omega) hn
            have hlen : (lks m n a ++ rowL m a b).length ≤ 300 := by rw [List.length_append]; omega
            have hown4 := HO2.out.alloc (.cells #[.int .i64 (a : Int), .int .i64 (b : Int)] 41)
            obtain ⟨i1, hi, hz0, hz1, hz2⟩ := info_parts Try.info41
            have hsrc : Src Try.prog 2 22 (.slice (some ⟨wr.heap.size, 0, none⟩) 1 1) 1 [.int .i64 (a : Int), .int .i64 (b : Int)] (wr.alloc (.cells #[.int .i64 (a : Int), .int .i64 (b : Int)] 41)) :=
              Src.ofSlice _ Try.underlying22 _ 1 1 _ rfl (World.news_of_block (heap_alloc_new wr _)) (by simp [Value.oneCell'])
            have hsz := HB2.out.size
            clear hm hl1 hl2 hl3
            go_wp2_with fail
            refine (len_graph wr p n mb HG2.out.obj).mono ?_
            rintro e w4 ⟨rfl, hw4⟩
            obtain rfl := hw4.symm
            generalize hL : lks m n a ++ rowL m a b = L at hown4 hlen ⊢
            have HL := Lib.hid hL
            clear hL
            go_wp2_with (at_builtin; refine wpList_append_owns _ rfl _ _ 22 22 rfl w.heap.size 41 i1 (.agg #[.int .i64 0, .int .i64 0]) 2 16 Try.underlying22 hi hz0 hz1 hz2 rfl (by decide) _ _ _ rfl hown4 _ 1 [.int .i64 (a : Int), .int .i64 (b : Int)] rfl hsrc (by unfold maxLen; omega) (by omega) (by simp; omega) ?_)
            intro v' w5 hown5 hgr5 hblk5 _
            go_wp2_with fail
            go_roundg (n - (b + 1))
            case measure => omega
            case rel =>
              refine ⟨b + 1, by omega, by omega, rfl, by go_num, ?_, (HB2.out.alloc hsz _).grown hgr5 (by simp; omega) (fun j hj => (HO2.out.block hj).1)⟩
              rw [HR.out, HM.out, if_pos ⟨by omega, rfl⟩, ← List.append_assoc, HL.out, List.length_append, pairs_append]
              exact hown5
        · obtain rfl : b = n := by omega
          go_wp2_with fail
          refine (len_graph wr p b mb HG2.out.obj).mono ?_
          rintro e w4 ⟨rfl, hw4⟩
          obtain rfl := hw4.symm
          go_wp2_with fail
          go_roundg (b - (a + 1))
          case measure => omega
          case rel => exact ⟨a + 1, by omega, rfl, by go_num, by rw [lks_succ]; exact HO2.out, HB2.out⟩
    · obtain rfl : a = n := by omega
      go_wp2_with fail
      go_ret
      exact ⟨_, rfl, HO.out, HB.out⟩
end Go.Proofs.Ytlnjnpedcbljcaa
