/- Acts that are alike. -/
import Derived.Test.YtmhhnmbedlhflaaDoorOwn
namespace Go.Proofs.YtmhhnmbedlhflaaDoor
open Go.RowKit

theorem acells_all (k : Int) (N : Nat → Int) (T : Nat → Bs) (kv : Value) : (aCells k N T kv)[0]? = some (.int .i64 k) ∧ (aCells k N T kv)[1]? = some (.int .i64 (N 1)) ∧ (aCells k N T kv)[2]? = some (.int .i64 (N 2)) ∧
    (aCells k N T kv)[3]? = some (.int .i64 (N 3)) ∧ (aCells k N T kv)[4]? = some (.int .i64 (N 4)) ∧ (aCells k N T kv)[5]? = some (.int .i64 (N 5)) ∧ (aCells k N T kv)[6]? = some (.string ⟨(T 6).toArray⟩) ∧ (aCells k N T kv)[7]? = some (.string ⟨(T 7).toArray⟩) ∧ (aCells k N T kv)[8]? = some kv :=
  ⟨rfl, rfl, rfl, rfl, rfl, rfl, rfl, rfl, rfl⟩
set_option maxHeartbeats 2000000 in
set_option maxRecDepth 100000 in
theorem same_run (k : Int) (N : Nat → Int) (T : Nat → Bs) (kv kv' : Value) (ks : List Int) (w : World) (hI : Ints w 0 kv ks) (hI' : Ints w 0 kv' ks) (hl : ks.length ≤ 1000000) (hT : ∀ i, (T i).length ≤ 1000000) :
    Calls Tryd.prog 14 #[.agg (aCells k N T kv), .agg (aCells k N T kv')] w fun e w' => e = .returned (.int .i64 1) ∧ Below w.heap.size w w' := by
  obtain ⟨A, c, rfl, hA⟩ := hI
  obtain ⟨A', c', rfl, hA'⟩ := hI'
  obtain ⟨c0, c1, c2, c3, c4, c5, c6, c7, c8⟩ := acells_all k N T (.slice A ks.length c)
  obtain ⟨d0, d1, d2, d3, d4, d5, d6, d7, d8⟩ := acells_all k N T (.slice A' ks.length c')
  generalize aCells k N T (.slice A ks.length c) = cs at c0 c1 c2 c3 c4 c5 c6 c7 c8
  generalize aCells k N T (.slice A' ks.length c') = ds at d0 d1 d2 d3 d4 d5 d6 d7 d8
  have HA := Lib.hid hA
  have HA' := Lib.hid hA'
  have HB := Lib.hid (((Below.refl w.heap.size w).alloc (Nat.le_refl _) (.cells cs 24)).alloc (by simp) (.cells ds 24))
  have hl' : (ks.length : Int) ≤ 1000000 := by omega
  clear hA hA'
  have B1 := Lib.hid ((Blk.new w 24 cs).alloc (.cells ds 24))
  have B2 := Lib.hid (blk_at (w.alloc (.cells cs 24)) 24 ds (w.heap.size + 1) (by simp))
  go_enter Tryd.func14, Tryd.ntmps14
  go_wp2_with fail
  go_loopg [5] ks.length (fun gk ii wr => ∃ j : Nat, j ≤ ks.length ∧ gk = ks.length - j ∧ ii = .int .i64 (j : Int) ∧ Blk wr w.heap.size 24 cs ∧ Blk wr (w.heap.size + 1) 24 ds ∧ Below w.heap.size w wr)
  case atStart => exact ⟨0, Nat.zero_le _, by omega, rfl, B1.out, B2.out, HB.out⟩
  case round =>
    obtain ⟨j, hjn, rfl, rfl, b1, b2, hb⟩ := hrel
    have y1 := (b1.cell 8).trans c8
    have y2 := (b2.cell 8).trans d8
    have HB1 := Lib.hid b1
    have HB2 := Lib.hid b2
    by_cases hlt : j < ks.length
    · have hlt' : (j : Int) < (ks.length : Int) := by omega
      obtain ⟨n, hn⟩ : ∃ n, ks[j]? = some n := ⟨_, List.getElem?_eq_getElem hlt⟩
      obtain ⟨p1, o1, rfl, _, h1, q1⟩ := HA.out (by omega)
      obtain ⟨p2, o2, rfl, _, h2, q2⟩ := HA'.out (by omega)
      have x1 : wr.cell? ⟨p1, o1 + j, none⟩ = some (.int .i64 n) := by rw [hb.cell h1]; exact q1 j n hn
      have x2 : wr.cell? ⟨p2, o2 + j, none⟩ = some (.int .i64 n) := by rw [hb.cell h2]; exact q2 j n hn
      have HBr := Lib.hid hb
      clear q1 q2 hn hb b1 b2
      go_wp2_with fail
      go_quiet (fail)
      go_wp2_with fail
      go_roundg (ks.length - (j + 1))
      case measure => omega
      case rel => exact ⟨j + 1, by omega, rfl, by go_num, HB1.out.drewN _, HB2.out.drewN _, below_drewN HBr.out _⟩
    · obtain rfl : ks.length = j := by omega
      have HBr := Lib.hid hb
      clear hb b1 b2
      go_wp2_with fail
      go_ret
      exact ⟨rfl, HBr.out⟩
end Go.Proofs.YtmhhnmbedlhflaaDoor
