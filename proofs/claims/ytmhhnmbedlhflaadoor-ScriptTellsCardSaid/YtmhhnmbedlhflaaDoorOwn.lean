/- An act, for the reference. -/
import Derived.Test.YtmhhnmbedlhflaaDoorRefRight
namespace Go.Proofs.YtmhhnmbedlhflaaDoor
open Go.RowKit

theorem Tryd.size27 : (Tryd.prog.info? 27).map (·.size) = some 9 := by kernel_rfl
theorem refright_run (k : Int) (N : Nat → Int) (T : Nat → Bs) (kv : Value) (ks : List Int) (w : World) (hI : Ints w 0 kv ks) (hl : ks.length ≤ 1000000) (hT : ∀ i, (T i).length ≤ 1000000) :
    Calls Tryd.prog 10 #[.agg (aCells k N T kv)] w fun e w' => e = .returned (.bool (rightB k N T ks)) ∧ Below w.heap.size w w' := by
  by_cases h : k < 0 ∨ 12 < k
  · exact refright_out k N T kv ks w h
  · obtain ⟨kn, rfl⟩ := Int.eq_ofNat_of_zero_le (show 0 ≤ k by omega)
    exact refright_in kn (by omega) N T kv ks w hI hl hT
set_option maxHeartbeats 2000000 in
set_option maxRecDepth 100000 in
theorem own_run (k : Int) (N : Nat → Int) (T : Nat → Bs) (A : Option Addr) (n c : Nat) (w : World) :
    Calls Tryd.prog 6 #[.agg (aCells k N T (.slice A n c))] w fun e w' => e = .returned (.agg (aCells k N T (.slice A n c))) ∧ Below w.heap.size w w' := by
  have hc0 : (aCells k N T (.slice A n c))[0]? = some (.int .i64 k) := rfl
  have hc1 : (aCells k N T (.slice A n c))[1]? = some (.int .i64 (N 1)) := rfl
  have hc2 : (aCells k N T (.slice A n c))[2]? = some (.int .i64 (N 2)) := rfl
  have hc3 : (aCells k N T (.slice A n c))[3]? = some (.int .i64 (N 3)) := rfl
  have hc4 : (aCells k N T (.slice A n c))[4]? = some (.int .i64 (N 4)) := rfl
  have hc5 : (aCells k N T (.slice A n c))[5]? = some (.int .i64 (N 5)) := rfl
  have hc6 : (aCells k N T (.slice A n c))[6]? = some (.string ⟨(T 6).toArray⟩) := rfl
  have hc7 : (aCells k N T (.slice A n c))[7]? = some (.string ⟨(T 7).toArray⟩) := rfl
  have hc8 : (aCells k N T (.slice A n c))[8]? = some (.slice A n c) := rfl
  generalize hcs : aCells k N T (.slice A n c) = cs at hc0 hc1 hc2 hc3 hc4 hc5 hc6 hc7 hc8
  have HCS := Lib.hid hcs
  clear hcs
  go_enter Tryd.func6, Tryd.ntmps6
  go_wp2_with fail
  refine bodyPost_ret (results_cell_row rfl _ _ (w.heap.size + 1) 27 _ (0, 0) _ rfl (blk_at (w.alloc (.cells cs 24)) 27 _ (w.heap.size + 1) (by simp)) Tryd.underlying27 rfl Tryd.size27) rfl ?_
  rw [← HCS.out]
  exact ⟨rfl, ((Below.refl _ _).alloc (Nat.le_refl _) _).alloc (by simp) _⟩
end Go.Proofs.YtmhhnmbedlhflaaDoor
