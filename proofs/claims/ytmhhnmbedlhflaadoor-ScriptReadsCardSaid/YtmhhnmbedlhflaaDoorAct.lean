/- An act's parts. -/
import Derived.Test.YtmhhnmbedlhflaaDoorActP
import Derived.Test.YtmhhnmbedlhflaaDoorHex
namespace Go.Proofs.YtmhhnmbedlhflaaDoor
open Go.RowKit

/-- A slice of pointers into block p, at the places l. -/
def Ptrs (w : World) (B : Nat) (t : TypeId) (p : Nat) (l : List Nat) (v : Value) : Prop :=
  (l = [] ∧ v = .slice none 0 0) ∨ ∃ g, v = .slice (some ⟨g, 0, none⟩) l.length l.length ∧ B ≤ g ∧ Blk w g t (l.map fun i => Value.pointer (some ⟨p, i, none⟩)).toArray
section
variable {w w' : World} {B : Nat} {t : TypeId} {p : Nat} {l : List Nat} {v : Value}
theorem Ptrs.len (h : Ptrs w B t p l v) : ∃ A, v = .slice A l.length l.length := by
  rcases h with ⟨rfl, rfl⟩ | ⟨g, rfl, _⟩
  · exact ⟨none, rfl⟩
  · exact ⟨_, rfl⟩
theorem Ptrs.get (h : Ptrs w B t p l v) {j i : Nat} (hj : l[j]? = some i) : ∃ g, v = .slice (some ⟨g, 0, none⟩) l.length l.length ∧ B ≤ g ∧ g < w.heap.size ∧ w.cell? ⟨g, j, none⟩ = some (.pointer (some ⟨p, i, none⟩)) := by
  rcases h with ⟨rfl, rfl⟩ | ⟨g, rfl, hg, hb⟩
  · simp at hj
  · refine ⟨g, rfl, hg, hb.lt, ?_⟩
    rw [hb.cell]
    simp [hj]
theorem Ptrs.keep {F : Nat → Prop} (h : Ptrs w B t p l v) (k : Keep F w w') (hf : ∀ g, B ≤ g → (∃ cs, Blk w g t cs) → ¬ F g) : Ptrs w' B t p l v := by
  rcases h with h | ⟨g, rfl, hg, hb⟩
  · exact .inl h
  · exact .inr ⟨g, rfl, hg, k.blk hb (hf g hg ⟨_, hb⟩)⟩
end
theorem verbs_run (w : World) : Calls Tryd.prog 18 #[] w fun e w' => e = .returned (.slice (some ⟨w.heap.size, 0, none⟩) 13 13) ∧ w' = w.alloc (.cells (((List.range 13).map fun k => Value.string ⟨(verb (k : Nat)).toArray⟩).toArray) 9) := by
  go_enter Tryd.func18, Tryd.ntmps18
  go_wp2_with fail
  go_ret
  exact ⟨rfl, rfl⟩
theorem parts_0 (p : Nat) (w : World) (hk : w.cell? ⟨p, 0, none⟩ = some (.int .i64 0)) :
    Calls Tryd.prog 19 #[.pointer (some ⟨p, 0, none⟩)] w fun e w' => ∃ v, e = .returned v ∧ Ptrs w' w.heap.size 52 p [1, 4] v ∧ Below w.heap.size w w' := by
  go_enter Tryd.func19, Tryd.ntmps19
  go_wp2_with fail
  go_region
  all_goals go_wp2_with fail
  all_goals go_ret
  all_goals first
    | exact ⟨_, rfl, .inr ⟨w.heap.size, rfl, Nat.le_refl _, heap_alloc_new w _⟩, ((Below.refl _ _).alloc (Nat.le_refl _) _).drew⟩
    | exact ⟨_, rfl, .inr ⟨w.heap.size, rfl, Nat.le_refl _, heap_alloc_new w _⟩, (Below.refl _ _).alloc (Nat.le_refl _) _⟩
theorem parts_1 (p : Nat) (w : World) (hk : w.cell? ⟨p, 0, none⟩ = some (.int .i64 1)) :
    Calls Tryd.prog 19 #[.pointer (some ⟨p, 0, none⟩)] w fun e w' => ∃ v, e = .returned v ∧ Ptrs w' w.heap.size 52 p [1, 2, 4, 5] v ∧ Below w.heap.size w w' := by
  go_enter Tryd.func19, Tryd.ntmps19
  go_wp2_with fail
  go_region
  all_goals go_wp2_with fail
  all_goals go_ret
  all_goals first
    | exact ⟨_, rfl, .inr ⟨w.heap.size, rfl, Nat.le_refl _, heap_alloc_new w _⟩, ((Below.refl _ _).alloc (Nat.le_refl _) _).drew⟩
    | exact ⟨_, rfl, .inr ⟨w.heap.size, rfl, Nat.le_refl _, heap_alloc_new w _⟩, (Below.refl _ _).alloc (Nat.le_refl _) _⟩
theorem parts_2 (p : Nat) (w : World) (hk : w.cell? ⟨p, 0, none⟩ = some (.int .i64 2)) :
    Calls Tryd.prog 19 #[.pointer (some ⟨p, 0, none⟩)] w fun e w' => ∃ v, e = .returned v ∧ Ptrs w' w.heap.size 52 p [1, 3] v ∧ Below w.heap.size w w' := by
  go_enter Tryd.func19, Tryd.ntmps19
  go_wp2_with fail
  go_region
  all_goals go_wp2_with fail
  all_goals go_ret
  all_goals first
    | exact ⟨_, rfl, .inr ⟨w.heap.size, rfl, Nat.le_refl _, heap_alloc_new w _⟩, ((Below.refl _ _).alloc (Nat.le_refl _) _).drew⟩
    | exact ⟨_, rfl, .inr ⟨w.heap.size, rfl, Nat.le_refl _, heap_alloc_new w _⟩, (Below.refl _ _).alloc (Nat.le_refl _) _⟩
theorem parts_3 (p : Nat) (w : World) (hk : w.cell? ⟨p, 0, none⟩ = some (.int .i64 3)) :
    Calls Tryd.prog 19 #[.pointer (some ⟨p, 0, none⟩)] w fun e w' => ∃ v, e = .returned v ∧ Ptrs w' w.heap.size 52 p [1] v ∧ Below w.heap.size w w' := by
  go_enter Tryd.func19, Tryd.ntmps19
  go_wp2_with fail
  all_goals go_ret
  all_goals first
    | exact ⟨_, rfl, .inr ⟨w.heap.size, rfl, Nat.le_refl _, heap_alloc_new w _⟩, ((Below.refl _ _).alloc (Nat.le_refl _) _).drew⟩
    | exact ⟨_, rfl, .inr ⟨w.heap.size, rfl, Nat.le_refl _, heap_alloc_new w _⟩, (Below.refl _ _).alloc (Nat.le_refl _) _⟩
theorem parts_4 (p : Nat) (w : World) (hk : w.cell? ⟨p, 0, none⟩ = some (.int .i64 4)) :
    Calls Tryd.prog 19 #[.pointer (some ⟨p, 0, none⟩)] w fun e w' => ∃ v, e = .returned v ∧ Ptrs w' w.heap.size 52 p [1, 3] v ∧ Below w.heap.size w w' := by
  go_enter Tryd.func19, Tryd.ntmps19
  go_wp2_with fail
  go_region
  all_goals go_wp2_with fail
  all_goals go_ret
  all_goals first
    | exact ⟨_, rfl, .inr ⟨w.heap.size, rfl, Nat.le_refl _, heap_alloc_new w _⟩, ((Below.refl _ _).alloc (Nat.le_refl _) _).drew⟩
    | exact ⟨_, rfl, .inr ⟨w.heap.size, rfl, Nat.le_refl _, heap_alloc_new w _⟩, (Below.refl _ _).alloc (Nat.le_refl _) _⟩
theorem parts_5 (p : Nat) (w : World) (hk : w.cell? ⟨p, 0, none⟩ = some (.int .i64 5)) :
    Calls Tryd.prog 19 #[.pointer (some ⟨p, 0, none⟩)] w fun e w' => ∃ v, e = .returned v ∧ Ptrs w' w.heap.size 52 p [1] v ∧ Below w.heap.size w w' := by
  go_enter Tryd.func19, Tryd.ntmps19
  go_wp2_with fail
  all_goals go_ret
  all_goals first
    | exact ⟨_, rfl, .inr ⟨w.heap.size, rfl, Nat.le_refl _, heap_alloc_new w _⟩, ((Below.refl _ _).alloc (Nat.le_refl _) _).drew⟩
    | exact ⟨_, rfl, .inr ⟨w.heap.size, rfl, Nat.le_refl _, heap_alloc_new w _⟩, (Below.refl _ _).alloc (Nat.le_refl _) _⟩
theorem parts_6 (p : Nat) (w : World) (hk : w.cell? ⟨p, 0, none⟩ = some (.int .i64 6)) :
    Calls Tryd.prog 19 #[.pointer (some ⟨p, 0, none⟩)] w fun e w' => ∃ v, e = .returned v ∧ Ptrs w' w.heap.size 52 p [3, 2, 4] v ∧ Below w.heap.size w w' := by
  go_enter Tryd.func19, Tryd.ntmps19
  go_wp2_with fail
  go_region
  all_goals go_wp2_with fail
  all_goals go_ret
  all_goals first
    | exact ⟨_, rfl, .inr ⟨w.heap.size, rfl, Nat.le_refl _, heap_alloc_new w _⟩, ((Below.refl _ _).alloc (Nat.le_refl _) _).drew⟩
    | exact ⟨_, rfl, .inr ⟨w.heap.size, rfl, Nat.le_refl _, heap_alloc_new w _⟩, (Below.refl _ _).alloc (Nat.le_refl _) _⟩
theorem parts_8 (p : Nat) (w : World) (hk : w.cell? ⟨p, 0, none⟩ = some (.int .i64 8)) :
    Calls Tryd.prog 19 #[.pointer (some ⟨p, 0, none⟩)] w fun e w' => ∃ v, e = .returned v ∧ Ptrs w' w.heap.size 52 p [3, 5] v ∧ Below w.heap.size w w' := by
  go_enter Tryd.func19, Tryd.ntmps19
  go_wp2_with fail
  go_region
  all_goals go_wp2_with fail
  all_goals go_ret
  all_goals first
    | exact ⟨_, rfl, .inr ⟨w.heap.size, rfl, Nat.le_refl _, heap_alloc_new w _⟩, ((Below.refl _ _).alloc (Nat.le_refl _) _).drew⟩
    | exact ⟨_, rfl, .inr ⟨w.heap.size, rfl, Nat.le_refl _, heap_alloc_new w _⟩, (Below.refl _ _).alloc (Nat.le_refl _) _⟩
theorem parts_9 (p : Nat) (w : World) (hk : w.cell? ⟨p, 0, none⟩ = some (.int .i64 9)) :
    Calls Tryd.prog 19 #[.pointer (some ⟨p, 0, none⟩)] w fun e w' => ∃ v, e = .returned v ∧ Ptrs w' w.heap.size 52 p [1, 3] v ∧ Below w.heap.size w w' := by
  go_enter Tryd.func19, Tryd.ntmps19
  go_wp2_with fail
  go_region
  all_goals go_wp2_with fail
  all_goals go_ret
  all_goals first
    | exact ⟨_, rfl, .inr ⟨w.heap.size, rfl, Nat.le_refl _, heap_alloc_new w _⟩, ((Below.refl _ _).alloc (Nat.le_refl _) _).drew⟩
    | exact ⟨_, rfl, .inr ⟨w.heap.size, rfl, Nat.le_refl _, heap_alloc_new w _⟩, (Below.refl _ _).alloc (Nat.le_refl _) _⟩
theorem parts_10 (p : Nat) (w : World) (hk : w.cell? ⟨p, 0, none⟩ = some (.int .i64 10)) :
    Calls Tryd.prog 19 #[.pointer (some ⟨p, 0, none⟩)] w fun e w' => ∃ v, e = .returned v ∧ Ptrs w' w.heap.size 52 p [3] v ∧ Below w.heap.size w w' := by
  go_enter Tryd.func19, Tryd.ntmps19
  go_wp2_with fail
  all_goals go_ret
  all_goals first
    | exact ⟨_, rfl, .inr ⟨w.heap.size, rfl, Nat.le_refl _, heap_alloc_new w _⟩, ((Below.refl _ _).alloc (Nat.le_refl _) _).drew⟩
    | exact ⟨_, rfl, .inr ⟨w.heap.size, rfl, Nat.le_refl _, heap_alloc_new w _⟩, (Below.refl _ _).alloc (Nat.le_refl _) _⟩
theorem parts_11 (p : Nat) (w : World) (hk : w.cell? ⟨p, 0, none⟩ = some (.int .i64 11)) :
    Calls Tryd.prog 19 #[.pointer (some ⟨p, 0, none⟩)] w fun e w' => ∃ v, e = .returned v ∧ Ptrs w' w.heap.size 52 p [1, 4] v ∧ Below w.heap.size w w' := by
  go_enter Tryd.func19, Tryd.ntmps19
  go_wp2_with fail
  go_region
  all_goals go_wp2_with fail
  all_goals go_ret
  all_goals first
    | exact ⟨_, rfl, .inr ⟨w.heap.size, rfl, Nat.le_refl _, heap_alloc_new w _⟩, ((Below.refl _ _).alloc (Nat.le_refl _) _).drew⟩
    | exact ⟨_, rfl, .inr ⟨w.heap.size, rfl, Nat.le_refl _, heap_alloc_new w _⟩, (Below.refl _ _).alloc (Nat.le_refl _) _⟩
theorem parts_12 (p : Nat) (w : World) (hk : w.cell? ⟨p, 0, none⟩ = some (.int .i64 12)) :
    Calls Tryd.prog 19 #[.pointer (some ⟨p, 0, none⟩)] w fun e w' => ∃ v, e = .returned v ∧ Ptrs w' w.heap.size 52 p [1] v ∧ Below w.heap.size w w' := by
  go_enter Tryd.func19, Tryd.ntmps19
  go_wp2_with fail
  all_goals go_ret
  all_goals first
    | exact ⟨_, rfl, .inr ⟨w.heap.size, rfl, Nat.le_refl _, heap_alloc_new w _⟩, ((Below.refl _ _).alloc (Nat.le_refl _) _).drew⟩
    | exact ⟨_, rfl, .inr ⟨w.heap.size, rfl, Nat.le_refl _, heap_alloc_new w _⟩, (Below.refl _ _).alloc (Nat.le_refl _) _⟩
theorem parts_else (p : Nat) (k : Int) (w : World) (hk : w.cell? ⟨p, 0, none⟩ = some (.int .i64 k)) (h0 : ¬ k = 0) (h1 : ¬ k = 1) (h2 : ¬ k = 2) (h3 : ¬ k = 3) (h4 : ¬ k = 4) (h5 : ¬ k = 5) (h6 : ¬ k = 6) (h8 : ¬ k = 8) (h9 : ¬ k = 9) (h10 : ¬ k = 10) (h11 : ¬ k = 11) (h12 : ¬ k = 12) :
    Calls Tryd.prog 19 #[.pointer (some ⟨p, 0, none⟩)] w fun e w' => ∃ v, e = .returned v ∧ Ptrs w' w.heap.size 52 p [] v ∧ Below w.heap.size w w' := by
  go_enter Tryd.func19, Tryd.ntmps19
  go_wp2_with fail
  go_ret
  exact ⟨_, rfl, .inl ⟨rfl, rfl⟩, Below.refl _ _⟩
theorem parts_run (p : Nat) (k : Int) (w : World) (hk : w.cell? ⟨p, 0, none⟩ = some (.int .i64 k)) :
    Calls Tryd.prog 19 #[.pointer (some ⟨p, 0, none⟩)] w fun e w' => ∃ v, e = .returned v ∧ Ptrs w' w.heap.size 52 p (places k) v ∧ Below w.heap.size w w' := by
  by_cases h0 : k = 0
  · subst h0; exact parts_0 p w hk
  by_cases h1 : k = 1
  · subst h1; exact parts_1 p w hk
  by_cases h2 : k = 2
  · subst h2; exact parts_2 p w hk
  by_cases h3 : k = 3
  · subst h3; exact parts_3 p w hk
  by_cases h4 : k = 4
  · subst h4; exact parts_4 p w hk
  by_cases h5 : k = 5
  · subst h5; exact parts_5 p w hk
  by_cases h6 : k = 6
  · subst h6; exact parts_6 p w hk
  by_cases h8 : k = 8
  · subst h8; exact parts_8 p w hk
  by_cases h9 : k = 9
  · subst h9; exact parts_9 p w hk
  by_cases h10 : k = 10
  · subst h10; exact parts_10 p w hk
  by_cases h11 : k = 11
  · subst h11; exact parts_11 p w hk
  by_cases h12 : k = 12
  · subst h12; exact parts_12 p w hk
  have e : places k = [] := by
    unfold places
    simp [h0, h1, h2, h3, h4, h5, h6, h8, h9, h10, h11, h12]
  rw [e]
  exact parts_else p k w hk h0 h1 h2 h3 h4 h5 h6 h8 h9 h10 h11 h12
theorem texts_0 (p : Nat) (w : World) (hk : w.cell? ⟨p, 0, none⟩ = some (.int .i64 0)) :
    Calls Tryd.prog 21 #[.pointer (some ⟨p, 0, none⟩)] w fun e w' => ∃ v, e = .returned v ∧ Ptrs w' w.heap.size 56 p [6, 7] v ∧ Below w.heap.size w w' := by
  go_enter Tryd.func21, Tryd.ntmps21
  go_wp2_with fail
  go_region
  all_goals go_wp2_with fail
  all_goals go_ret
  all_goals first
    | exact ⟨_, rfl, .inr ⟨w.heap.size, rfl, Nat.le_refl _, heap_alloc_new w _⟩, ((Below.refl _ _).alloc (Nat.le_refl _) _).drew⟩
    | exact ⟨_, rfl, .inr ⟨w.heap.size, rfl, Nat.le_refl _, heap_alloc_new w _⟩, (Below.refl _ _).alloc (Nat.le_refl _) _⟩
theorem texts_7 (p : Nat) (w : World) (hk : w.cell? ⟨p, 0, none⟩ = some (.int .i64 7)) :
    Calls Tryd.prog 21 #[.pointer (some ⟨p, 0, none⟩)] w fun e w' => ∃ v, e = .returned v ∧ Ptrs w' w.heap.size 56 p [6] v ∧ Below w.heap.size w w' := by
  go_enter Tryd.func21, Tryd.ntmps21
  go_wp2_with fail
  all_goals go_ret
  all_goals first
    | exact ⟨_, rfl, .inr ⟨w.heap.size, rfl, Nat.le_refl _, heap_alloc_new w _⟩, ((Below.refl _ _).alloc (Nat.le_refl _) _).drew⟩
    | exact ⟨_, rfl, .inr ⟨w.heap.size, rfl, Nat.le_refl _, heap_alloc_new w _⟩, (Below.refl _ _).alloc (Nat.le_refl _) _⟩
theorem texts_else (p : Nat) (k : Int) (w : World) (hk : w.cell? ⟨p, 0, none⟩ = some (.int .i64 k)) (h0 : ¬ k = 0) (h7 : ¬ k = 7) :
    Calls Tryd.prog 21 #[.pointer (some ⟨p, 0, none⟩)] w fun e w' => ∃ v, e = .returned v ∧ Ptrs w' w.heap.size 56 p [] v ∧ Below w.heap.size w w' := by
  go_enter Tryd.func21, Tryd.ntmps21
  go_wp2_with fail
  go_ret
  exact ⟨_, rfl, .inl ⟨rfl, rfl⟩, Below.refl _ _⟩
theorem texts_run (p : Nat) (k : Int) (w : World) (hk : w.cell? ⟨p, 0, none⟩ = some (.int .i64 k)) :
    Calls Tryd.prog 21 #[.pointer (some ⟨p, 0, none⟩)] w fun e w' => ∃ v, e = .returned v ∧ Ptrs w' w.heap.size 56 p (txts k) v ∧ Below w.heap.size w w' := by
  by_cases h0 : k = 0
  · subst h0; exact texts_0 p w hk
  by_cases h7 : k = 7
  · subst h7; exact texts_7 p w hk
  have e : txts k = [] := by
    unfold txts
    simp [h0, h7]
  rw [e]
  exact texts_else p k w hk h0 h7
end Go.Proofs.YtmhhnmbedlhflaaDoor
