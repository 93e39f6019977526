/- The document's Has and Verb. -/
import Derived.Test.YtmhhnmbedlhflaaDoorRight
namespace Go.Proofs.YtmhhnmbedlhflaaDoor
open Go.RowKit

theorem ints_made {w : World} (xs : List Int) : Ints (w.alloc (.cells (xs.map (Value.int .i64)).toArray 3)) w.heap.size (.slice (some ⟨w.heap.size, 0, none⟩) xs.length xs.length) xs :=
  ⟨_, _, rfl, fun _ => ⟨_, _, rfl, Nat.le_refl _, by simp, fun j n hn => by
    rw [(Blk.new w 3 _).cell]
    simp [hn]⟩⟩
theorem has_0 (w : World) : Calls Tryd.prog 28 #[.int .i64 0] w fun e w' => ∃ v, e = .returned v ∧ Ints w' w.heap.size v [0, 3] ∧ Below w.heap.size w w' := by
  go_enter Tryd.func28, Tryd.ntmps28
  go_wp2_with fail
  go_ret
  exact ⟨_, rfl, ints_made [0, 3], (Below.refl _ _).alloc (Nat.le_refl _) _⟩
theorem has_1 (w : World) : Calls Tryd.prog 28 #[.int .i64 1] w fun e w' => ∃ v, e = .returned v ∧ Ints w' w.heap.size v [0, 1, 3, 4] ∧ Below w.heap.size w w' := by
  go_enter Tryd.func28, Tryd.ntmps28
  go_wp2_with fail
  go_ret
  exact ⟨_, rfl, ints_made [0, 1, 3, 4], (Below.refl _ _).alloc (Nat.le_refl _) _⟩
theorem has_2 (w : World) : Calls Tryd.prog 28 #[.int .i64 2] w fun e w' => ∃ v, e = .returned v ∧ Ints w' w.heap.size v [0, 2] ∧ Below w.heap.size w w' := by
  go_enter Tryd.func28, Tryd.ntmps28
  go_wp2_with fail
  go_ret
  exact ⟨_, rfl, ints_made [0, 2], (Below.refl _ _).alloc (Nat.le_refl _) _⟩
theorem has_3 (w : World) : Calls Tryd.prog 28 #[.int .i64 3] w fun e w' => ∃ v, e = .returned v ∧ Ints w' w.heap.size v [0] ∧ Below w.heap.size w w' := by
  go_enter Tryd.func28, Tryd.ntmps28
  go_wp2_with fail
  go_ret
  exact ⟨_, rfl, ints_made [0], (Below.refl _ _).alloc (Nat.le_refl _) _⟩
theorem has_4 (w : World) : Calls Tryd.prog 28 #[.int .i64 4] w fun e w' => ∃ v, e = .returned v ∧ Ints w' w.heap.size v [0, 2] ∧ Below w.heap.size w w' := by
  go_enter Tryd.func28, Tryd.ntmps28
  go_wp2_with fail
  go_ret
  exact ⟨_, rfl, ints_made [0, 2], (Below.refl _ _).alloc (Nat.le_refl _) _⟩
theorem has_5 (w : World) : Calls Tryd.prog 28 #[.int .i64 5] w fun e w' => ∃ v, e = .returned v ∧ Ints w' w.heap.size v [0] ∧ Below w.heap.size w w' := by
  go_enter Tryd.func28, Tryd.ntmps28
  go_wp2_with fail
  go_ret
  exact ⟨_, rfl, ints_made [0], (Below.refl _ _).alloc (Nat.le_refl _) _⟩
theorem has_6 (w : World) : Calls Tryd.prog 28 #[.int .i64 6] w fun e w' => ∃ v, e = .returned v ∧ Ints w' w.heap.size v [2, 1, 3] ∧ Below w.heap.size w w' := by
  go_enter Tryd.func28, Tryd.ntmps28
  go_wp2_with fail
  go_ret
  exact ⟨_, rfl, ints_made [2, 1, 3], (Below.refl _ _).alloc (Nat.le_refl _) _⟩
theorem has_8 (w : World) : Calls Tryd.prog 28 #[.int .i64 8] w fun e w' => ∃ v, e = .returned v ∧ Ints w' w.heap.size v [2, 4] ∧ Below w.heap.size w w' := by
  go_enter Tryd.func28, Tryd.ntmps28
  go_wp2_with fail
  go_ret
  exact ⟨_, rfl, ints_made [2, 4], (Below.refl _ _).alloc (Nat.le_refl _) _⟩
theorem has_9 (w : World) : Calls Tryd.prog 28 #[.int .i64 9] w fun e w' => ∃ v, e = .returned v ∧ Ints w' w.heap.size v [0, 2] ∧ Below w.heap.size w w' := by
  go_enter Tryd.func28, Tryd.ntmps28
  go_wp2_with fail
  go_ret
  exact ⟨_, rfl, ints_made [0, 2], (Below.refl _ _).alloc (Nat.le_refl _) _⟩
theorem has_10 (w : World) : Calls Tryd.prog 28 #[.int .i64 10] w fun e w' => ∃ v, e = .returned v ∧ Ints w' w.heap.size v [2] ∧ Below w.heap.size w w' := by
  go_enter Tryd.func28, Tryd.ntmps28
  go_wp2_with fail
  go_ret
  exact ⟨_, rfl, ints_made [2], (Below.refl _ _).alloc (Nat.le_refl _) _⟩
theorem has_11 (w : World) : Calls Tryd.prog 28 #[.int .i64 11] w fun e w' => ∃ v, e = .returned v ∧ Ints w' w.heap.size v [0, 3] ∧ Below w.heap.size w w' := by
  go_enter Tryd.func28, Tryd.ntmps28
  go_wp2_with fail
  go_ret
  exact ⟨_, rfl, ints_made [0, 3], (Below.refl _ _).alloc (Nat.le_refl _) _⟩
theorem has_12 (w : World) : Calls Tryd.prog 28 #[.int .i64 12] w fun e w' => ∃ v, e = .returned v ∧ Ints w' w.heap.size v [0] ∧ Below w.heap.size w w' := by
  go_enter Tryd.func28, Tryd.ntmps28
  go_wp2_with fail
  go_ret
  exact ⟨_, rfl, ints_made [0], (Below.refl _ _).alloc (Nat.le_refl _) _⟩
theorem has_else (k : Int) (w : World) (h0 : ¬ k = 0) (h1 : ¬ k = 1) (h2 : ¬ k = 2) (h3 : ¬ k = 3) (h4 : ¬ k = 4) (h5 : ¬ k = 5) (h6 : ¬ k = 6) (h8 : ¬ k = 8) (h9 : ¬ k = 9) (h10 : ¬ k = 10) (h11 : ¬ k = 11) (h12 : ¬ k = 12) : Calls Tryd.prog 28 #[.int .i64 k] w fun e w' => ∃ v, e = .returned v ∧ Ints w' w.heap.size v [] ∧ Below w.heap.size w w' := by
  go_enter Tryd.func28, Tryd.ntmps28
  go_wp2_with fail
  go_ret
  exact ⟨_, rfl, Ints.nil _ _, Below.refl _ _⟩
/-- The places, as the document counts them. -/
def hasL (k : Int) : List Int := (places k).map fun (i : Nat) => (i : Int) - 1
theorem has_run (k : Int) (w : World) : Calls Tryd.prog 28 #[.int .i64 k] w fun e w' => ∃ v, e = .returned v ∧ Ints w' w.heap.size v (hasL k) ∧ Below w.heap.size w w' := by
  by_cases h0 : k = 0
  · subst h0; rw [show hasL 0 = [0, 3] by decide]; exact has_0 w
  by_cases h1 : k = 1
  · subst h1; rw [show hasL 1 = [0, 1, 3, 4] by decide]; exact has_1 w
  by_cases h2 : k = 2
  · subst h2; rw [show hasL 2 = [0, 2] by decide]; exact has_2 w
  by_cases h3 : k = 3
  · subst h3; rw [show hasL 3 = [0] by decide]; exact has_3 w
  by_cases h4 : k = 4
  · subst h4; rw [show hasL 4 = [0, 2] by decide]; exact has_4 w
  by_cases h5 : k = 5
  · subst h5; rw [show hasL 5 = [0] by decide]; exact has_5 w
  by_cases h6 : k = 6
  · subst h6; rw [show hasL 6 = [2, 1, 3] by decide]; exact has_6 w
  by_cases h8 : k = 8
  · subst h8; rw [show hasL 8 = [2, 4] by decide]; exact has_8 w
  by_cases h9 : k = 9
  · subst h9; rw [show hasL 9 = [0, 2] by decide]; exact has_9 w
  by_cases h10 : k = 10
  · subst h10; rw [show hasL 10 = [2] by decide]; exact has_10 w
  by_cases h11 : k = 11
  · subst h11; rw [show hasL 11 = [0, 3] by decide]; exact has_11 w
  by_cases h12 : k = 12
  · subst h12; rw [show hasL 12 = [0] by decide]; exact has_12 w
  have e : hasL k = [] := by
    unfold hasL places
    simp [h0, h1, h2, h3, h4, h5, h6, h8, h9, h10, h11, h12]
  rw [e]
  exact has_else k w h0 h1 h2 h3 h4 h5 h6 h8 h9 h10 h11 h12
theorem verb_0 (w : World) : Calls Tryd.prog 34 #[.int .i64 0] w fun e w' => e = .returned (.string ⟨(verb 0).toArray⟩) ∧ w' = w := by
  go_enter Tryd.func34, Tryd.ntmps34
  go_wp2_with fail
  go_ret
  exact ⟨rfl, rfl⟩
theorem verb_1 (w : World) : Calls Tryd.prog 34 #[.int .i64 1] w fun e w' => e = .returned (.string ⟨(verb 1).toArray⟩) ∧ w' = w := by
  go_enter Tryd.func34, Tryd.ntmps34
  go_wp2_with fail
  go_ret
  exact ⟨rfl, rfl⟩
theorem verb_2 (w : World) : Calls Tryd.prog 34 #[.int .i64 2] w fun e w' => e = .returned (.string ⟨(verb 2).toArray⟩) ∧ w' = w := by
  go_enter Tryd.func34, Tryd.ntmps34
  go_wp2_with fail
  go_ret
  exact ⟨rfl, rfl⟩
theorem verb_3 (w : World) : Calls Tryd.prog 34 #[.int .i64 3] w fun e w' => e = .returned (.string ⟨(verb 3).toArray⟩) ∧ w' = w := by
  go_enter Tryd.func34, Tryd.ntmps34
  go_wp2_with fail
  go_ret
  exact ⟨rfl, rfl⟩
theorem verb_4 (w : World) : Calls Tryd.prog 34 #[.int .i64 4] w fun e w' => e = .returned (.string ⟨(verb 4).toArray⟩) ∧ w' = w := by
  go_enter Tryd.func34, Tryd.ntmps34
  go_wp2_with fail
  go_ret
  exact ⟨rfl, rfl⟩
theorem verb_5 (w : World) : Calls Tryd.prog 34 #[.int .i64 5] w fun e w' => e = .returned (.string ⟨(verb 5).toArray⟩) ∧ w' = w := by
  go_enter Tryd.func34, Tryd.ntmps34
  go_wp2_with fail
  go_ret
  exact ⟨rfl, rfl⟩
theorem verb_6 (w : World) : Calls Tryd.prog 34 #[.int .i64 6] w fun e w' => e = .returned (.string ⟨(verb 6).toArray⟩) ∧ w' = w := by
  go_enter Tryd.func34, Tryd.ntmps34
  go_wp2_with fail
  go_ret
  exact ⟨rfl, rfl⟩
theorem verb_7 (w : World) : Calls Tryd.prog 34 #[.int .i64 7] w fun e w' => e = .returned (.string ⟨(verb 7).toArray⟩) ∧ w' = w := by
  go_enter Tryd.func34, Tryd.ntmps34
  go_wp2_with fail
  go_ret
  exact ⟨rfl, rfl⟩
theorem verb_8 (w : World) : Calls Tryd.prog 34 #[.int .i64 8] w fun e w' => e = .returned (.string ⟨(verb 8).toArray⟩) ∧ w' = w := by
  go_enter Tryd.func34, Tryd.ntmps34
  go_wp2_with fail
  go_ret
  exact ⟨rfl, rfl⟩
theorem verb_9 (w : World) : Calls Tryd.prog 34 #[.int .i64 9] w fun e w' => e = .returned (.string ⟨(verb 9).toArray⟩) ∧ w' = w := by
  go_enter Tryd.func34, Tryd.ntmps34
  go_wp2_with fail
  go_ret
  exact ⟨rfl, rfl⟩
theorem verb_10 (w : World) : Calls Tryd.prog 34 #[.int .i64 10] w fun e w' => e = .returned (.string ⟨(verb 10).toArray⟩) ∧ w' = w := by
  go_enter Tryd.func34, Tryd.ntmps34
  go_wp2_with fail
  go_ret
  exact ⟨rfl, rfl⟩
theorem verb_11 (w : World) : Calls Tryd.prog 34 #[.int .i64 11] w fun e w' => e = .returned (.string ⟨(verb 11).toArray⟩) ∧ w' = w := by
  go_enter Tryd.func34, Tryd.ntmps34
  go_wp2_with fail
  go_ret
  exact ⟨rfl, rfl⟩
theorem verb_12 (w : World) : Calls Tryd.prog 34 #[.int .i64 12] w fun e w' => e = .returned (.string ⟨(verb 12).toArray⟩) ∧ w' = w := by
  go_enter Tryd.func34, Tryd.ntmps34
  go_wp2_with fail
  go_ret
  exact ⟨rfl, rfl⟩
theorem verb_run (k : Nat) (hk : k ≤ 12) (w : World) : Calls Tryd.prog 34 #[.int .i64 (k : Int)] w fun e w' => e = .returned (.string ⟨(verb (k : Int)).toArray⟩) ∧ w' = w := by
  rcases (by omega : k = 0 ∨ k = 1 ∨ k = 2 ∨ k = 3 ∨ k = 4 ∨ k = 5 ∨ k = 6 ∨ k = 7 ∨ k = 8 ∨ k = 9 ∨ k = 10 ∨ k = 11 ∨ k = 12) with rfl | rfl | rfl | rfl | rfl | rfl | rfl | rfl | rfl | rfl | rfl | rfl | rfl
  · exact verb_0 w
  · exact verb_1 w
  · exact verb_2 w
  · exact verb_3 w
  · exact verb_4 w
  · exact verb_5 w
  · exact verb_6 w
  · exact verb_7 w
  · exact verb_8 w
  · exact verb_9 w
  · exact verb_10 w
  · exact verb_11 w
  · exact verb_12 w
end Go.Proofs.YtmhhnmbedlhflaaDoor
