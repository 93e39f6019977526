/- slices.Reverse of a slice of the call's own. -/
import Derived.Test.YtlnjnpedcbljcaaFrom
namespace Go.Proofs.Ytlnjnpedcbljcaa
open Go.RowKit

def rv (xs : List Nat) (i : Nat) : List Nat := (List.range xs.length).map fun t => if t < i ∨ xs.length ≤ t + i then xs.getD (xs.length - 1 - t) 0 else xs.getD t 0
theorem rv_length (xs : List Nat) (i : Nat) : (rv xs i).length = xs.length := by simp [rv]
theorem rv_get {xs : List Nat} {i t : Nat} (h : t < xs.length) : (rv xs i)[t]? = some (if t < i ∨ xs.length ≤ t + i then xs.getD (xs.length - 1 - t) 0 else xs.getD t 0) := by
  simp [rv, h]
theorem rv_zero (xs : List Nat) : rv xs 0 = xs := by
  apply List.ext_getElem?
  intro t
  by_cases h : t < xs.length
  · rw [rv_get h, if_neg (by omega)]; simp [h]
  · rw [List.getElem?_eq_none (by rw [rv_length]; omega), List.getElem?_eq_none (by omega)]
theorem rv_end {xs : List Nat} {i : Nat} (h : xs.length ≤ 2 * i + 1) : rv xs i = xs.reverse := by
  apply List.ext_getElem?
  intro t
  by_cases ht : t < xs.length
  · rw [rv_get ht, List.getElem?_reverse ht]
    by_cases hc : t < i ∨ xs.length ≤ t + i
    · rw [if_pos hc]; simp [show xs.length - 1 - t < xs.length by omega]
    · rw [if_neg hc, show xs.length - 1 - t = t from by omega]; simp [ht]
  · rw [List.getElem?_eq_none (by rw [rv_length]; omega), List.getElem?_eq_none (by simp; omega)]
theorem rv_step {xs : List Nat} {i j : Nat} (h : j + i + 1 = xs.length) (hij : i < j) : ((rv xs i).set i (xs.getD j 0)).set j (xs.getD i 0) = rv xs (i + 1) := by
  apply List.ext_getElem?
  intro t
  by_cases ht : t < xs.length
  · rw [rv_get ht, List.getElem?_set, List.getElem?_set]
    by_cases e1 : j = t
    · subst e1
      rw [if_pos rfl, if_pos (by simp [rv_length]; omega), if_pos (by omega), show xs.length - 1 - j = i from by omega]
    · rw [if_neg e1]
      by_cases e2 : i = t
      · subst e2
        rw [if_pos rfl, if_pos (by rw [rv_length]; omega), if_pos (by omega), show xs.length - 1 - i = j from by omega]
      · rw [if_neg e2, rv_get ht]
        by_cases hc : t < i ∨ xs.length ≤ t + i
        · rw [if_pos hc, if_pos (by omega)]
        · rw [if_neg hc, if_neg (by omega)]
  · rw [List.getElem?_eq_none (by simp [rv_length]; omega), List.getElem?_eq_none (by rw [rv_length]; omega)]
theorem ints_set (l : List Nat) (i v : Nat) : (ints l).set i (.int .i64 (v : Int)) = ints (l.set i v) := by simp [ints, List.map_set]
theorem ints_get {l : List Nat} {i v : Nat} (h : l[i]? = some v) : (ints l)[i]? = some (.int .i64 (v : Int)) := by simp [ints, h]

set_option maxHeartbeats 1000000 in
theorem reverse_at (w : World) (base g off n cap : Nat) (xs : List Nat) (hn : xs.length = n) (ho : Owns w base 3 1 (.slice (some ⟨g, off, none⟩) n cap) n (ints xs)) (h1 : 1 ≤ n) (h2 : n ≤ 100) :
    Calls Try.prog 20 #[.slice (some ⟨g, off, none⟩) n cap] w fun e w' => e = .returned (.tuple #[]) ∧ Owns w' base 3 1 (.slice (some ⟨g, off, none⟩) n cap) n (ints xs.reverse) ∧ w.grownBy w' (some g) := by
  have HO := Lib.hid ho
  have HN := Lib.hid hn
  clear ho hn
  have hn1 : (0 : Int) ≤ (n : Int) - 1 := by omega
  go_enter Try.func20, Try.ntmps20
  go_wp2_with fail
  go_loopg [2, 3] n (fun gk a b wr => ∃ i j : Nat, j + i + 1 = n ∧ gk = n - i ∧ a = .int .i64 (i : Int) ∧ b = .int .i64 (j : Int) ∧ Owns wr base 3 1 (.slice (some ⟨g, off, none⟩) n cap) n (ints (rv xs i)) ∧ w.grownBy wr (some g))
  case atStart => exact ⟨0, n - 1, by omega, rfl, rfl, congrArg (Value.int .i64) (by omega), by rw [rv_zero]; exact HO.out, ⟨rfl, rfl, rfl, Nat.le_refl _, fun _ _ _ => rfl⟩⟩
  case round =>
    obtain ⟨i, j, hij, rfl, rfl, rfl, ho, hgr⟩ := hrel
    by_cases hlt : i < j
    · have HX := HN.out
      obtain ⟨g', off', cap', hv', _, _, hcap, hcells, hfr⟩ := ho.form (by omega)
      injection hv' with e1 e2 e3
      injection e1 with e1
      injection e1 with e1 e4 _
      subst e1; subst e4; subst e3
      have ci : wr.cell? ⟨g, off + i, none⟩ = some (.int .i64 ((xs.getD i 0 : Nat) : Int)) := hcells i _ (ints_get (by rw [rv_get (by omega), if_neg (by omega)]))
      have cj : wr.cell? ⟨g, off + j, none⟩ = some (.int .i64 ((xs.getD j 0 : Nat) : Int)) := hcells j _ (ints_get (by rw [rv_get (by omega), if_neg (by omega)]))
      have fi := hfr (off + i)
      have fj := hfr (off + j)
      have hs := (ho.set rfl i (.int .i64 ((xs.getD j 0 : Nat) : Int))).set rfl j (.int .i64 ((xs.getD i 0 : Nat) : Int))
      rw [ints_set, ints_set, rv_step (by omega) hlt] at hs
      have hg2 : w.grownBy (((wr.setCell ⟨g, off + i, none⟩ (.int .i64 ((xs.getD j 0 : Nat) : Int))).setCell ⟨g, off + j, none⟩ (.int .i64 ((xs.getD i 0 : Nat) : Int))).drewN 1) (some g) := by
        refine ⟨hgr.os, hgr.tape, hgr.output, by simpa [World.setCell] using hgr.size, fun k hk hne => ?_⟩
        have hkg : k ≠ g := fun e => hne (by rw [e])
        exact (Below.heap_setCell _ _ _ _ hkg).trans ((Below.heap_setCell _ _ _ _ hkg).trans (hgr.block k hk hne))
      generalize xs.getD i 0 = xi at ci hs hg2
      generalize xs.getD j 0 = xj at cj hs hg2
      have HS := Lib.hid hs
      have HG2 := Lib.hid hg2
      have hin : (i : Int) < (n : Int) := by omega
      have hjn : (j : Int) < (n : Int) := by omega
      have hij' : (i : Int) < (j : Int) := by omega
      have hne : off + i ≠ off + j := by omega
      have hd : ¬ i = j := by omega
      have H0 := Lib.hid hij
      clear ho hgr hcells hfr hs hg2 HX hij
      go_wp2_with fail
      go_region
      go_wp2_with fail
      go_roundg (n - (i + 1))
      case measure => have := H0.out; omega
      case rel => have := H0.out; exact ⟨i + 1, j - 1, by omega, rfl, by go_num, congrArg (Value.int .i64) (by omega), HS.out, HG2.out⟩
    · have HO2 := Lib.hid ho
      have HG2 := Lib.hid hgr
      have hij' : ¬ (i : Int) < (j : Int) := by omega
      have H0 := Lib.hid hij
      clear ho hgr hij
      go_wp2_with fail
      go_end0
      refine ⟨rfl, ?_, HG2.out⟩
      have := HO2.out
      rwa [rv_end (by rw [HN.out]; have := H0.out; omega)] at this
end Go.Proofs.Ytlnjnpedcbljcaa
